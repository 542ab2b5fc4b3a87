/- Owned slices: written in place, grown in place, moved to a new block, let to stay for good. Conditions: those that each theorem names. -/
import Derived.Test.YtfnmdmadaljjkaaHeap
set_option linter.unusedVariables false
set_option linter.unusedSimpArgs false
namespace Go.Ab

/-- An owned slice has another length, or another block. -/
def Gh.setTok (g : Gh) (t b c n : Nat) : Gh := { g with tok := fun i => if i = t then some (b, c, n) else g.tok i }
theorem Ext.setTok {g : Gh} {t b c n b' c' n' : Nat} (e : g.tok t = some (b, c, n)) (hn : n ≤ n') (hs : n = n' → b' = b ∧ c' = c) : Ext g (g.setTok t b' c' n') :=
  ⟨Nat.le_refl _, fun _ _ _ h => h, fun _ _ => rfl, fun i _ => by
    by_cases hi : i = t
    · subst hi; simp only [Gh.setTok, if_true]; exact .inr ⟨b, c, n, b', c', n', e, rfl, hn, hs⟩
    · simp only [Gh.setTok, if_neg hi]; exact tokMono.refl _, fun _ _ h => h⟩

theorem lk_up_isSome {α : Type} {l : List (Nat × α)} {t : Nat} {x : α} (i : Nat) : (lk (up l t x) i).isSome = (lk l i).isSome := by
  rw [lk_up]
  by_cases hi : t = i
  · subst hi; cases lk l t <;> simp
  · simp [hi]

theorem HRel.setTok {g : Gh} {h : Hp} {w : World} (r : HRel g h w) {t : Nat} {k : Tk} (e : lk h.toks t = some k) {b c n : Nat} (eb : g.tok t = some (b, c, n)) (vs' : Array Value) (xs' : List (List AV)) (fz' : Nat)
    (hl : Lies g vs' xs' k.s) (h1 : ∀ v ∈ vs'.toList, v.oneCell' = true) (hs : vs'.size = c * k.s) (hn : k.xs.length ≤ xs'.length) (hc : xs'.length ≤ c) (hz : k.fz ≤ fz') (hz' : fz' ≤ xs'.length)
    (hm : ∀ o v, g.mem b o = some v → vs'[o]? = some v) :
    HRel (g.setTok t b c xs'.length) { h with toks := up h.toks t ⟨xs', fz', k.s⟩ } (w.setRow b vs') ∧ Ext g (g.setTok t b c xs'.length) := by
  obtain ⟨b0, c0, vs, ty, q1, q2, q3, q4, q5, q6, q7, q8, q9⟩ := r.tok t k e
  rw [q1] at eb; cases eb
  have hx : Ext g (g.setTok t b c xs'.length) := Ext.setTok q1 hn (fun _ => ⟨rfl, rfl⟩)
  have other : ∀ j x, w.heap[j]? = some x → j ≠ b → (w.setRow b vs').heap[j]? = some x := fun j x hk hne => (setRow_other w b j vs' hne).trans hk
  have tk : ∀ i b' c' n', (g.setTok t b c xs'.length).tok i = some (b', c', n') → ∃ c1 n1, g.tok i = some (b', c1, n1) := fun i b' c' n' q => by
    by_cases hi : i = t
    · subst hi; simp only [Gh.setTok, if_true, Option.some.injEq, Prod.mk.injEq] at q; exact ⟨c, _, by rw [q1, q.1]⟩
    · simp only [Gh.setTok, if_neg hi] at q; exact ⟨c', n', q⟩
  refine ⟨⟨r.nx, fun b' o v e' => ?_, fun i cs e' => ?_, fun i k' e' => ?_, r.bxbx, fun i j b' c1 n1 c2 n2 e1 e2 e3 e4 => ?_, fun i j b' c' n' e1 e2 e3 e4 => ?_, fun i hi => ?_, r.cchUp hx rfl (fun b' es k e' => other b' _ e' (fun q => by subst q; rw [q2] at e'; cases e')), r.celUp rfl (fun b' vs0 e0 q => (Classical.em (b' = b)).elim (fun q' => ⟨vs', ty, by rw [q']; exact setRow_heap w b vs vs' ty _ q2⟩) (fun q' => ⟨vs0, e0, other b' _ q q'⟩))⟩, hx⟩
  · obtain ⟨f1, f2⟩ := r.mem b' o v e'
    by_cases hb : b' = b
    · subst hb
      refine ⟨?_, f2⟩
      rw [cell_of_block (setRow_heap w b' vs vs' ty _ q2)]
      exact hm o v e'
    · exact ⟨by rw [World.cell?_of_block (w := w) (setRow_other w b b' vs' hb)]; exact f1, f2⟩
  · obtain ⟨b', vs0, ty0, f1, f2, f3, f4, f5⟩ := r.box i cs e'
    refine ⟨b', vs0, ty0, f1, other b' _ f2 (fun q => ?_), f3.mono hx, f4, f5⟩
    subst q
    exact r.bxtk i t b' c _ f1 q1 (by rw [e']; rfl) (by rw [e]; rfl)
  · rw [lk_up] at e'
    by_cases hi : t = i
    · subst hi
      simp only [if_true, e, Option.map_some, Option.some.injEq] at e'
      subst e'
      exact ⟨b, c, vs', ty, by simp [Gh.setTok], setRow_heap w b vs vs' ty _ q2, hs, hc, hz', hl.1, (hl.mono hx).2, h1, fun o ho => q9 o (Nat.le_trans (Nat.mul_le_mul_right _ hz) ho)⟩
    · rw [if_neg hi] at e'
      obtain ⟨b', c', vs0, ty0, f1, f2, f3, f4, f5, f6, f7, f8, f9⟩ := r.tok i k' e'
      refine ⟨b', c', vs0, ty0, by simp only [Gh.setTok, if_neg (fun q : i = t => hi q.symm)]; exact f1, other b' _ f2 (fun q => hi ?_), f3, f4, f5, f6, fun i y j a g1 g2 => ?_, f8, f9⟩
      · subst q
        exact r.tktk t i b' c _ c' _ q1 f1 (by rw [e]; rfl) (by rw [e']; rfl)
      · obtain ⟨v, g3, g4⟩ := f7 i y j a g1 g2
        exact ⟨v, g3, g4.mono hx⟩
  · simp only [lk_up_isSome] at e3 e4
    obtain ⟨c3, n3, e5⟩ := tk i _ _ _ e1
    obtain ⟨c4, n4, e6⟩ := tk j _ _ _ e2
    exact r.tktk i j b' _ _ _ _ e5 e6 e3 e4
  · simp only [lk_up_isSome] at e4
    obtain ⟨c3, n3, e5⟩ := tk j _ _ _ e2
    exact r.bxtk i j b' _ _ e1 e5 e3 e4
  · have ht := r.tok_lt e
    have hi' : h.nx ≤ i := hi
    have hne : i ≠ t := by omega
    refine ⟨(r.fresh i hi).1, ?_⟩
    simp only [Gh.setTok, if_neg hne]
    exact (r.fresh i hi).2

theorem Live.setTok {g : Gh} {h : Hp} {t : Nat} {k k' : Tk} (e : lk h.toks t = some k) {b c n n' x : Nat} (eb : g.tok t = some (b, c, n)) (l : Live (g.setTok t b c n') { h with toks := up h.toks t k' } x) : Live g h x := by
  rcases l with ⟨i, cs, e1, e2⟩ | ⟨i, k1, c1, n1, e1, e2⟩ | e1
  · exact .inl ⟨i, cs, e1, e2⟩
  · by_cases hi : i = t
    · subst hi
      simp only [Gh.setTok, if_true, Option.some.injEq, Prod.mk.injEq] at e2
      exact .inr (.inl ⟨i, k, c, n, e, by rw [eb, e2.1]⟩)
    · simp only [Gh.setTok, if_neg hi] at e2
      simp only [lk_up] at e1
      rw [if_neg (fun q : t = i => hi q.symm)] at e1
      exact .inr (.inl ⟨i, k1, c1, n1, e1, e2⟩)
  · exact .inr (.inr e1)

theorem HRel.moveTok {g : Gh} {h : Hp} {w : World} (r : HRel g h w) {t : Nat} {k : Tk} (e : lk h.toks t = some k) (vs' : Array Value) (ty : TypeId) (xs' : List (List AV)) (c : Nat)
    (hl : Lies g vs' xs' k.s) (h1 : ∀ v ∈ vs'.toList, v.oneCell' = true) (hs : vs'.size = c * k.s) (hn : k.xs.length < xs'.length) (hc : xs'.length ≤ c) :
    HRel (g.setTok t w.heap.size c xs'.length) { h with toks := up h.toks t ⟨xs', k.fz, k.s⟩ } (w.alloc (.cells vs' ty)) ∧ Ext g (g.setTok t w.heap.size c xs'.length) := by
  obtain ⟨b, c0, vs, ty0, q1, q2, q3, q4, q5, q6, q7, q8, q9⟩ := r.tok t k e
  have hx : Ext g (g.setTok t w.heap.size c xs'.length) := Ext.setTok q1 (Nat.le_of_lt hn) (fun q => by omega)
  refine ⟨⟨r.nx, fun b' o v e' => ?_, fun i cs e' => ?_, fun i k' e' => ?_, r.bxbx, fun i j b' c1 n1 c2 n2 e1 e2 e3 e4 => ?_, fun i j b' c' n' e1 e2 e3 e4 => ?_, fun i hi => ?_, r.cchUp hx rfl (fun b' es k e' => heap_alloc e'), r.celUp rfl (fun b vs e q => ⟨vs, e, heap_alloc q⟩)⟩, hx⟩
  · obtain ⟨f1, f2⟩ := r.mem b' o v e'
    exact ⟨cell_alloc f1, f2⟩
  · obtain ⟨b', vs0, ty1, f1, f2, f3, f4, f5⟩ := r.box i cs e'
    exact ⟨b', vs0, ty1, f1, heap_alloc f2, f3.mono hx, f4, f5⟩
  · rw [lk_up] at e'
    by_cases hi : t = i
    · subst hi
      simp only [if_true, e, Option.map_some, Option.some.injEq] at e'
      subst e'
      exact ⟨w.heap.size, c, vs', ty, by simp [Gh.setTok], heap_alloc_new w _, hs, hc, by simp only; omega, hl.1, (hl.mono hx).2, h1, fun o _ => r.mem_none o (Nat.le_refl _)⟩
    · rw [if_neg hi] at e'
      obtain ⟨b', c', vs0, ty1, f1, f2, f3, f4, f5, f6, f7, f8, f9⟩ := r.tok i k' e'
      refine ⟨b', c', vs0, ty1, by simp only [Gh.setTok, if_neg (fun q : i = t => hi q.symm)]; exact f1, heap_alloc f2, f3, f4, f5, f6, fun i y j a g1 g2 => ?_, f8, f9⟩
      obtain ⟨v, g3, g4⟩ := f7 i y j a g1 g2
      exact ⟨v, g3, g4.mono hx⟩
  · simp only [lk_up_isSome] at e3 e4
    by_cases hi : i = t <;> by_cases hj : j = t
    · rw [hi, hj]
    · simp only [Gh.setTok, if_pos hi, if_neg hj, Option.some.injEq, Prod.mk.injEq] at e1 e2
      have := r.tokBlocks j e4 _ _ _ e2; omega
    · simp only [Gh.setTok, if_neg hi, if_pos hj, Option.some.injEq, Prod.mk.injEq] at e1 e2
      have := r.tokBlocks i e3 _ _ _ e1; omega
    · simp only [Gh.setTok, if_neg hi, if_neg hj] at e1 e2
      exact r.tktk i j b' _ _ _ _ e1 e2 e3 e4
  · simp only [lk_up_isSome] at e4
    by_cases hj : j = t
    · simp only [Gh.setTok, if_pos hj, Option.some.injEq, Prod.mk.injEq] at e2
      have := r.boxBlocks i e3 _ e1; omega
    · simp only [Gh.setTok, if_neg hj] at e2
      exact r.bxtk i j b' _ _ e1 e2 e3 e4
  · have ht := r.tok_lt e
    have hi' : h.nx ≤ i := hi
    have hne : i ≠ t := by omega
    refine ⟨(r.fresh i hi).1, ?_⟩
    simp only [Gh.setTok, if_neg hne]
    exact (r.fresh i hi).2

theorem Live.moveTok {g : Gh} {h : Hp} {w : World} {t : Nat} {k' : Tk} {c n' x : Nat} (l : Live (g.setTok t w.heap.size c n') { h with toks := up h.toks t k' } x) : Live g h x ∨ w.heap.size ≤ x := by
  rcases l with ⟨i, cs, e1, e2⟩ | ⟨i, k1, c1, n1, e1, e2⟩ | e1
  · exact .inl (.inl ⟨i, cs, e1, e2⟩)
  · by_cases hi : i = t
    · subst hi
      simp only [Gh.setTok, if_true, Option.some.injEq, Prod.mk.injEq] at e2
      exact .inr (by omega)
    · simp only [Gh.setTok, if_neg hi] at e2
      simp only [lk_up] at e1
      rw [if_neg (fun q : t = i => hi q.symm)] at e1
      exact .inl (.inr (.inl ⟨i, k1, c1, n1, e1, e2⟩))
  · exact .inl (.inr (.inr e1))

/-- The rows of an owned slice stay from now on. -/
def Gh.freeze (g : Gh) (b m : Nat) (vs : Array Value) : Gh := { g with mem := fun b' o => if b' = b ∧ o < m then vs[o]? else g.mem b' o }

theorem HRel.freezeM {g : Gh} {h : Hp} {w : World} (r : HRel g h w) {t : Nat} {k : Tk} (e : lk h.toks t = some k) :
    ∃ g', HRel g' { h with toks := up h.toks t ⟨k.xs, k.xs.length, k.s⟩ } w ∧ Ext g g' ∧ (∀ v, Rep g v (.own t k.xs.length) → Rep g' v (.vec k.xs false)) ∧ g'.box = g.box ∧ (g'.tok = g.tok ∧ g'.cch = g.cch) ∧ ∀ b o v, g'.mem b o = some v → g.mem b o = some v ∨ ∃ c n, g.tok t = some (b, c, n) := by
  obtain ⟨b, c, vs, ty, q1, q2, q3, q4, q5, q6, q7, q8, q9⟩ := r.tok t k e
  have hx : Ext g (g.freeze b (k.xs.length * k.s) vs) := ⟨Nat.le_refl _, fun b' o v e' => by
    by_cases hb : b' = b ∧ o < k.xs.length * k.s
    · obtain ⟨rfl, _⟩ := hb
      have := (r.mem _ o v e').1
      rw [cell_of_block q2] at this
      simp only [Gh.freeze]
      split <;> assumption
    · simp only [Gh.freeze, if_neg hb]; exact e', fun _ _ => rfl, fun _ _ => tokMono.refl _, fun _ _ h => h⟩
  refine ⟨g.freeze b (k.xs.length * k.s) vs, ⟨r.nx, fun b' o v e' => ?_, fun i cs e' => ?_, fun i k' e' => ?_, r.bxbx, fun i j b' c1 n1 c2 n2 e1 e2 e3 e4 => ?_, fun i j b' c' n' e1 e2 e3 e4 => ?_, r.fresh, r.cchUp hx rfl (fun _ _ _ e => e), r.celUp rfl (fun _ _ _ q => ⟨_, _, q⟩)⟩, hx, fun v hv => ?_, rfl, ⟨rfl, rfl⟩, fun b' o v e' => ?_⟩
  · simp only [Gh.freeze] at e'
    split at e'
    · rename_i hb
      obtain ⟨rfl, _⟩ := hb
      exact ⟨by rw [cell_of_block q2]; exact e', q8 v (by simpa using Array.mem_of_getElem? e')⟩
    · exact r.mem b' o v e'
  · obtain ⟨b', vs0, ty0, f1, f2, f3, f4, f5⟩ := r.box i cs e'
    refine ⟨b', vs0, ty0, f1, f2, f3.mono hx, f4, fun o => ?_⟩
    have hne : b' ≠ b := fun q => by subst q; exact r.bxtk i t b' c _ f1 q1 (by rw [e']; rfl) (by rw [e]; rfl)
    simp [Gh.freeze, hne, f5 o]
  · rw [lk_up] at e'
    by_cases hi : t = i
    · subst hi
      simp only [if_true, e, Option.map_some, Option.some.injEq] at e'
      subst e'
      refine ⟨b, c, vs, ty, q1, q2, q3, q4, Nat.le_refl _, q6, (Lies.mono hx ⟨q6, q7⟩).2, q8, fun o ho => ?_⟩
      simp only [Gh.freeze]
      rw [if_neg (by simp only at ho; omega)]
      exact q9 o (Nat.le_trans (Nat.mul_le_mul_right _ q5) ho)
    · rw [if_neg hi] at e'
      obtain ⟨b', c', vs0, ty1, f1, f2, f3, f4, f5, f6, f7, f8, f9⟩ := r.tok i k' e'
      have hne : b' ≠ b := fun q => hi (by subst q; exact r.tktk t i b' c _ c' _ q1 f1 (by rw [e]; rfl) (by rw [e']; rfl))
      refine ⟨b', c', vs0, ty1, f1, f2, f3, f4, f5, f6, (Lies.mono hx ⟨f6, f7⟩).2, f8, fun o ho => by simp [Gh.freeze, hne, f9 o ho]⟩
  · simp only [lk_up_isSome] at e3 e4; exact r.tktk i j b' c1 n1 c2 n2 e1 e2 e3 e4
  · simp only [lk_up_isSome] at e4; exact r.bxtk i j b' c' n' e1 e2 e3 e4
  · cases hv with
    | own h1 h2 =>
      obtain ⟨_, h3⟩ := h2 b c k.xs.length q1
      obtain ⟨rfl, rfl⟩ := h3 rfl
      refine .vec (s := k.s) (fun i j => vs.getD (i * k.s + j) undef) q6 (by simp) q4 (fun i x j a e1 e2 => ?_) (fun i x j a e1 e2 => ?_)
      · obtain ⟨v, f1, f2⟩ := q7 i x j a e1 e2
        have hj : j < k.s := by rw [← q6 x (List.mem_of_getElem? e1)]; exact (List.getElem?_eq_some_iff.1 e2).1
        have hi : i < k.xs.length := (List.getElem?_eq_some_iff.1 e1).1
        have hlt : i * k.s + j < k.xs.length * k.s := by
          calc i * k.s + j < i * k.s + k.s := by omega
            _ = (i + 1) * k.s := by rw [Nat.add_mul, Nat.one_mul]
            _ ≤ k.xs.length * k.s := Nat.mul_le_mul_right _ hi
        simp only [Gh.freeze, Nat.zero_add]
        rw [if_pos ⟨trivial, hlt⟩, f1, Array.getD_eq_getD_getElem?, f1]; rfl
      · obtain ⟨v, f1, f2⟩ := q7 i x j a e1 e2
        rw [Array.getD_eq_getD_getElem?, f1]
        exact f2.mono hx
  · simp only [Gh.freeze] at e'
    split at e'
    · rename_i hb
      exact .inr ⟨c, _, by rw [hb.1]; exact q1⟩
    · exact .inl e'

/-- The same, told of the cells alone. -/
theorem HRel.freeze' {g : Gh} {h : Hp} {w : World} (r : HRel g h w) {t : Nat} {k : Tk} (e : lk h.toks t = some k) {b c : Nat} {vs : Array Value} {ty : TypeId} (q1 : g.tok t = some (b, c, k.xs.length)) (q2 : w.heap[b]? = some (.cells vs ty (0, 0))) (q3 : vs.size = c * k.s) :
    ∃ g' : Gh, (∀ b o v, g'.mem b o = some v → w.cell? ⟨b, o, none⟩ = some v ∧ v.oneCell' = true) ∧ (∀ b o v, g.mem b o = some v → g'.mem b o = some v) ∧ (∀ b' o v, g'.mem b' o = some v → g.mem b' o = some v ∨ b' = b) ∧
      (∀ v, Rep g v (.own t k.xs.length) → Rep g' v (.vec k.xs false)) ∧ g'.tok = g.tok := by
  obtain ⟨b', c', vs', ty', f1, f2, _⟩ := r.tok t k e
  obtain ⟨g', h1, h2, h3, h4, h5, h6⟩ := r.freezeM e
  refine ⟨g', fun b o v q => h1.mem b o v q, h2.mem, fun b'' o v q => ?_, h3, h5.1⟩
  rcases h6 b'' o v q with q' | ⟨c1, n1, q'⟩
  · exact .inl q'
  · rw [q1] at q'; cases q'; exact .inr rfl

theorem Live.freeze {g g' : Gh} {h : Hp} {t : Nat} {k k' : Tk} (e : lk h.toks t = some k) (hb : g'.box = g.box) (ht : g'.tok = g.tok) (hc : g'.cch = g.cch) {x : Nat} (l : Live g' { h with toks := up h.toks t k' } x) : Live g h x := by
  rcases l with ⟨i, cs, e1, e2⟩ | ⟨i, k1, c1, n1, e1, e2⟩ | ⟨t', e1⟩
  · exact .inl ⟨i, cs, e1, by rw [← hb]; exact e2⟩
  · rw [ht] at e2
    by_cases hi : t = i
    · subst hi; exact .inr (.inl ⟨t, k, c1, n1, e, e2⟩)
    · simp only [lk_up] at e1
      rw [if_neg hi] at e1
      exact .inr (.inl ⟨i, k1, c1, n1, e1, e2⟩)
  · exact .inr (.inr ⟨t', by rw [← hc]; exact e1⟩)
end Go.Ab
