/- Variables that are never written again; pointers compared; maps that are caches: made, asked, written. Conditions: those that each theorem names. -/
import Derived.Test.YtfnmdmadaljjkaaNil
import Derived.Test.YtfnmdmadaljjkaaOwn
import Derived.LaidEqlPtr
set_option linter.unusedVariables false
set_option linter.unusedSimpArgs false
namespace Go.Ab

/-- What it stands for hangs on cells alone that are never written, and on caches. -/
def GP (a : AV) : Prop := ∀ g g' v, memLe g.mem g'.mem → (∀ r t, g.cch r = some t → g'.cch r = some t) → Rep g v a → Rep g' v a
theorem GP.of_pure {a : AV} (h : Pure a) : GP a := fun g g' v m _ hv => h g g' v m hv
theorem GP.lit (v : Value) : GP (.lit v) := .of_pure (.lit v)
theorem GP.mp (t : Nat) : GP (.mp t) := fun g g' v m c hv => by cases hv with | mp h1 => exact .mp (c _ _ h1)
theorem GP.np {cs : List AV} (h : ∀ c ∈ cs, GP c) : GP (.np cs) := fun g g' v m c hv => by
  cases hv with
  | np f h0 h1 h2 => exact .np f (c _ _ h0) (fun j a e => m _ _ _ (h1 j a e)) (fun j a e => h a (List.mem_of_getElem? e) g g' _ m c (h2 j a e))
theorem GP.agg {cs : List AV} (h : ∀ c ∈ cs, GP c) : GP (.agg cs) := fun g g' v m c hv => by
  cases hv with
  | agg h0 h1 h2 => exact .agg h0 h1 (fun i c' a e1 e2 => h a (List.mem_of_getElem? e2) g g' _ m c (h2 i c' a e1 e2))
theorem GP.tup {cs : List AV} (h : ∀ c ∈ cs, GP c) : GP (.tup cs) := fun g g' v m c hv => by
  cases hv with
  | tup h1 h2 => exact .tup h1 (fun i c' a e1 e2 => h a (List.mem_of_getElem? e2) g g' _ m c (h2 i c' a e1 e2))
theorem GP.vec {xs : List (List AV)} {f : Bool} (h : ∀ x ∈ xs, ∀ c ∈ x, GP c) : GP (.vec xs f) := fun g g' v m c hv => by
  cases hv with
  | vecN => exact .vecN
  | vecE h => exact .vecE h
  | vec f h1 h2 h3 h4 h5 => exact .vec f h1 h2 h3 (fun i x j a e1 e2 => m _ _ _ (h4 i x j a e1 e2)) (fun i x j a e1 e2 => h x (List.mem_of_getElem? e1) a (List.mem_of_getElem? e2) g g' _ m c (h5 i x j a e1 e2))
theorem GP.rn {a : AV} (h : GP a) {ρ : Nat → Nat} {n : Nat} : Rn ρ n a a :=
  ⟨fun g gs s v hv => h g gs v (by rw [s.mem]; exact fun _ _ _ e => e) (by rw [s.cch]; exact fun _ _ e => e) hv, fun g gs s v hv => h gs g v (by rw [s.mem]; exact fun _ _ _ e => e) (by rw [s.cch]; exact fun _ _ e => e) hv⟩
theorem GP.rnL {as : List AV} (h : ∀ a ∈ as, GP a) {ρ : Nat → Nat} {n : Nat} : RnL ρ n as as := by
  induction as with
  | nil => exact .nil
  | cons a as ih => exact .cons (h a (by simp)).rn (ih fun b hb => h b (by simp [hb]))
theorem GP.gc {a : AV} (h : GP a) {g : Gh} {v : Value} (hv : Rep g v a) : Rep (gc g) v a := h g (Go.Ab.gc g) v (fun _ _ _ e => e) (fun _ _ e => e) hv

/-! A variable that is never written again. -/
theorem HRel.freezeB {g : Gh} {h : Hp} {w : World} (r : HRel g h w) {id : Nat} {cs : List AV} (e : lk h.boxes id = some cs) :
    ∃ g', Step1 g h w g' { h with boxes := dl h.boxes id } w ∧ (∀ v, Rep g v (.ptr id 0) → Rep g' v (.np cs)) ∧ (∀ v, Rep g' v (.ptr id 0) → Rep g' v (.np cs)) := by
  obtain ⟨b, vs, ty, q1, q2, q3, q4, q5⟩ := r.box id cs e
  let g' : Gh := { g with mem := fun b' o => if b' = b then vs[o]? else g.mem b' o, cch := fun b' => if b' = b then some 0 else g.cch b' }
  have nom : ∀ t, g.cch b ≠ some (t + 1) := fun t q => by
    obtain ⟨es, k, f1, _⟩ := r.cch b t q; rw [q2] at f1; cases f1
  have hx : Ext g g' := ⟨Nat.le_refl _, fun b' o v e' => by
    have hne : b' ≠ b := fun q => by subst q; rw [q5] at e'; cases e'
    simp only [g', if_neg hne]; exact e', fun _ _ => rfl, fun _ _ => tokMono.refl _, fun b' t e' => by
    by_cases hb : b' = b
    · subst hb
      cases t with
      | zero => simp [g']
      | succ t => exact absurd e' (nom t)
    · simp only [g', if_neg hb]; exact e'⟩
  have sub : ∀ i c, lk (dl h.boxes id) i = some c → i ≠ id ∧ lk h.boxes i = some c := fun i c e' => by
    rw [lk_dl] at e'
    split at e'
    · cases e'
    · rename_i hn; exact ⟨fun q => hn q.symm, e'⟩
  have subS : ∀ i, (lk (dl h.boxes id) i).isSome = true → i ≠ id ∧ (lk h.boxes i).isSome = true := fun i e' => by
    obtain ⟨c, hc⟩ := Option.isSome_iff_exists.1 e'
    obtain ⟨h1, h2⟩ := sub i c hc
    exact ⟨h1, by rw [h2]; rfl⟩
  have hp : HRel g' { h with boxes := dl h.boxes id } w := by
    refine ⟨r.nx, fun b' o v e' => ?_, fun i c e' => ?_, fun t k e' => ?_, fun i j b' e1 e2 e3 e4 => r.bxbx i j b' e1 e2 (subS i e3).2 (subS j e4).2, r.tktk, fun i j b' c n e1 e2 e3 e4 => r.bxtk i j b' c n e1 e2 (subS i e3).2 e4, r.fresh, fun b' t e' => ?_, fun b' e' => ?_⟩
    · by_cases hb : b' = b
      · subst hb
        simp only [g', if_true] at e'
        exact ⟨by rw [cell_of_block q2]; exact e', q4 v (by simpa using Array.mem_of_getElem? e')⟩
      · simp only [g', if_neg hb] at e'
        exact r.mem b' o v e'
    · obtain ⟨hi, hc⟩ := sub i c e'
      obtain ⟨b', vs', ty', f1, f2, f3, f4, f5⟩ := r.box i c hc
      have hne : b' ≠ b := fun q => by subst q; exact hi (r.bxbx i id b' f1 q1 (by rw [hc]; rfl) (by rw [e]; rfl))
      exact ⟨b', vs', ty', f1, f2, f3.mono hx, f4, fun o => by simp only [g', if_neg hne]; exact f5 o⟩
    · obtain ⟨b', c, vs', ty', f1, f2, f3, f4, f5, f6, f7, f8, f9⟩ := r.tok t k e'
      have hne : b' ≠ b := fun q => by subst q; exact r.bxtk id t b' c _ q1 f1 (by rw [e]; rfl) (by rw [e']; rfl)
      exact ⟨b', c, vs', ty', f1, f2, f3, f4, f5, f6, (Lies.mono hx ⟨f6, f7⟩).2, f8, fun o ho => by simp only [g', if_neg hne]; exact f9 o ho⟩
    · have e'' : g.cch b' = some (t + 1) := by
        by_cases hb : b' = b
        · simp [g', hb] at e'
        · simpa [g', hb] using e'
      obtain ⟨es, k, f1, f2⟩ := r.cch b' t e''
      exact ⟨es, k, f1, f2.mono hx.mem hx.cch⟩
    · by_cases hb : b' = b
      · exact ⟨vs, ty, by rw [hb]; exact q2⟩
      · exact r.cel b' (by simpa [g', hb] using e')
  have conv : ∀ gg : Gh, Ext gg g' → (∀ bb, gg.box id = some bb → bb = b) → gg.box id = some b → ∀ v, Rep gg v (.ptr id 0) → Rep g' v (.np cs) := fun gg x _ hb v hv => by
    cases hv with
    | ptr h1 h2 =>
      have := h2 b hb; subst this
      refine .np (fun j => vs.getD j undef) (by simp [g']) (fun j a e' => ?_) (fun j a e' => ?_)
      · have hj : j < vs.size := by have := (List.getElem?_eq_some_iff.1 e').1; have h3 := q3.1; simp at h3; omega
        simp [g', Array.getD, hj]
      · have hj : j < vs.size := by have := (List.getElem?_eq_some_iff.1 e').1; have h3 := q3.1; simp at h3; omega
        have := q3.2 j (vs.getD j undef) a (by simp [Array.getD, hj]) e'
        exact this.mono hx
  refine ⟨g', ⟨hp, hx, .refl _ _, fun b' l => .inl ?_, fun b' o v e' => ?_⟩, conv g hx (fun bb q => by rw [q1] at q; cases q; rfl) q1, conv g' (.refl _) (fun bb q => by have q : g.box id = some bb := q; rw [q1] at q; cases q; rfl) q1⟩
  · rcases l with ⟨i, c, e1, e2⟩ | ⟨t, k, c, n, e1, e2⟩ | ⟨t, e1⟩
    · exact .inl ⟨i, c, (sub i c e1).2, e2⟩
    · exact .inr (.inl ⟨t, k, c, n, e1, e2⟩)
    · refine .inr (.inr ⟨t, ?_⟩)
      by_cases hb : b' = b
      · simp [g', hb] at e1
      · simpa [g', hb] using e1
  · by_cases hb : b' = b
    · exact .inr (.inl (.inl ⟨id, cs, e, by rw [hb]; exact q1⟩))
    · exact .inl (by simpa [g', hb] using e')

theorem St.wk_box {σ σ' : St} {id : Nat} {cs : List AV} (hk : lk σ.hp.boxes id = some cs) (hn : σ'.hp.nx = σ.hp.nx) (ht : σ'.nt = σ.nt)
    (h1 : ∀ g g', Ext g g' → Cv g g' (.ptr id 0) (.np cs) → ∀ p ∈ σ'.slots, ∃ b, lk σ.slots p.1 = some b ∧ Cv g g' b p.2)
    (h2 : ∀ g g', Ext g g' → Cv g g' (.ptr id 0) (.np cs) → ∀ p ∈ σ'.hp.boxes, p.1 ≠ id ∧ ∃ cs, lk σ.hp.boxes p.1 = some cs ∧ CvL g g' cs p.2)
    (h3 : ∀ g, ∀ p ∈ σ'.hp.toks, ∃ k', lk σ.hp.toks p.1 = some k' ∧ TkCv g k' p.2) : St.wk σ σ' := by
  intro g0 h0 w0 g w a r
  obtain ⟨g', s, c, c'⟩ := r.st.hp.freezeB hk
  refine ⟨g', r.conv s hn ht (h1 g g' s.ext c) (fun p hp => ?_) (h3 g')⟩
  obtain ⟨hne, cs', k1, k2⟩ := h2 g' g' (.refl g') c' p hp
  exact ⟨cs', by rw [lk_dl, if_neg (fun q => hne q.symm)]; exact k1, k2⟩
end Go.Ab
