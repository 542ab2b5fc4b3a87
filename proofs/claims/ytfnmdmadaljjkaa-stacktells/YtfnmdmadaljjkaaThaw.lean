/- A function that only reads and makes may be given an owned slice: the slice is the caller's own again behind it. Of the result that is known which hangs on no memory. Conditions: those that each theorem names. -/
import Derived.Test.YtfnmdmadaljjkaaDrawM
import Derived.Test.YtfnmdmadaljjkaaDrawG
import Derived.Test.YtfnmdmadaljjkaaOwn
set_option linter.unusedVariables false
set_option linter.unusedSimpArgs false
namespace Go.Ab

theorem HRel.skip {g : Gh} {h : Hp} {w : World} (r : HRel g h w) : HRel (g.skip 1) ⟨h.boxes, h.toks, h.nx + 1⟩ w := by
  have x := Ext.skip g 1
  refine ⟨by simp [Gh.skip, r.nx], r.mem, fun id cs e => ?_, fun t k e => ?_, r.bxbx, r.tktk, r.bxtk, fun i hi => r.fresh i (by have : h.nx + 1 ≤ i := hi; omega), r.cchUp x rfl (fun _ _ _ e => e), r.celUp rfl (fun _ _ _ q => ⟨_, _, q⟩)⟩
  · obtain ⟨b, vs, ty, e1, e2, e3, e4, e5⟩ := r.box id cs e
    exact ⟨b, vs, ty, e1, e2, e3.mono x, e4, e5⟩
  · obtain ⟨b, c, vs, ty, e1, e2, e3, e4, e5, e6, e7, e8, e9⟩ := r.tok t k e
    refine ⟨b, c, vs, ty, e1, e2, e3, e4, e5, e6, fun i y j a f1 f2 => ?_, e8, e9⟩
    obtain ⟨v, f3, f4⟩ := e7 i y j a f1 f2
    exact ⟨v, f3, f4.mono x⟩

theorem SCall_thaw {P : Program} {f : FuncId} {args args' : List AV} {r r' : AV} {H : Hp} {t : Nat} {k : Tk} (hk : lk H.toks t = some k) (h : PCall P f args r) (ha : ∀ a ∈ args, Pure a)
    (hs : ∀ g g', Ext g g' → Cv g g' (.own t k.xs.length) (.vec k.xs false) → CvL g g' args' args) (hr : ∀ m g v, H.nx < g.nx → g.tok H.nx = none → Rep (gm m) v r → Rep g v r') :
    SCall P f args' H fun r1 h' => r1 = r' ∧ h' = ⟨H.boxes, H.toks, H.nx + 1⟩ := by
  intro g w vals rel hv
  obtain ⟨b, c, vs, ty, q1, q2, q3, q4, q5, q6, q7, q8, q9⟩ := rel.tok t k hk
  obtain ⟨g1, r1, x1, cv1, bx1, tk1, mm1⟩ := rel.freezeM hk
  have hl := hs g g1 x1 cv1 _ hv
  have hl' : RepL (gm g1.mem) vals.toList args := ⟨hl.1, fun i c a e1 e2 => ha a (List.mem_of_getElem? e2) g1 (gm g1.mem) c (fun _ _ _ e => e) (hl.2 i c a e1 e2)⟩
  refine (h g1.mem w vals r1.memOk hl').mono fun e w' ⟨v, m, e1, e2, e3, e4, e5, e6⟩ => ?_
  have hb : ∀ b' o v, g1.mem b' o = some v → g.mem b' o = some v ∨ b' = b := fun b' o v e => by
    rcases mm1 b' o v e with q | ⟨c1, n1, q⟩
    · exact .inl q
    · rw [q1] at q; cases q; exact .inr rfl
  have st : Step1 g H w { g with mem := fun b' o => if b' = b then g.mem b' o else m b' o } H w' := by
    refine rel.frame (fun b' o u e => ?_) e4 (fun b' o u e => ?_) (fun b' o u e => ?_)
    · split at e
      · obtain ⟨f1, f2⟩ := rel.mem b' o u e
        refine ⟨?_, f2⟩
        have hlt : b' < w.heap.size := World.block_lt_of_cell? w ⟨b', o, none⟩ f1
        rw [World.cell?_of_block (w := w) (e4.block b' hlt (fun q => q))]; exact f1
      · exact e3 b' o u e
    · split
      · exact e
      · exact e5 b' o u (x1.mem b' o u e)
    · split at e
      · exact .inl e
      · rename_i hne
        rcases e6 b' o u e with q | q
        · exact (hb b' o u q).imp id fun q => absurd q hne
        · exact .inr q
  refine ⟨v, r', _, _, e1, hr m _ v ?_ ?_ e2, ⟨st.hp.skip, st.ext.trans (Ext.skip _ 1), st.keeps, fun b' l => ?_, st.memo⟩, rfl, rfl⟩
  · simp only [Gh.skip]; rw [rel.nx]; exact Nat.lt_succ_self _
  · simp only [Gh.skip]; exact (rel.fresh H.nx (Nat.le_refl _)).2
  · rcases l with ⟨i, cs, f1, f2⟩ | ⟨i, k1, c1, n1, f1, f2⟩ | f1
    · exact st.live b' (.inl ⟨i, cs, f1, f2⟩)
    · exact st.live b' (.inr (.inl ⟨i, k1, c1, n1, f1, f2⟩))
    · exact st.live b' (.inr (.inr f1))

/-- What is known of a slice under a name that nothing has. -/
theorem Rep.any_own {g : Gh} {t n : Nat} {a : Option Addr} {cap : Nat} (h : t < g.nx) (k : g.tok t = none) : Rep g (.slice a n cap) (.own t n) := .own h (fun b c m e => by rw [k] at e; cases e)
end Go.Ab
