/- A contract over a small heap of its own names serves over any greater heap: what it does not see stays as it is. Conditions: those that each theorem names. -/
import Derived.Test.YtfnmdmadaljjkaaFrame
set_option linter.unusedVariables false
set_option linter.unusedSimpArgs false
namespace Go.Ab

/-- The small ghost gs is the part of g that ρ names. -/
structure Sm (ρ : Nat → Nat) (n : Nat) (g gs : Gh) : Prop where
  mem : gs.mem = g.mem
  nx : n ≤ gs.nx
  nm : ∀ i, i < n → ρ i < g.nx ∧ gs.box i = g.box (ρ i) ∧ gs.tok i = g.tok (ρ i)
  cch : gs.cch = g.cch

/-- a in the small heap is b in the great one. -/
structure Rn (ρ : Nat → Nat) (n : Nat) (a b : AV) : Prop where
  dn : ∀ g gs, Sm ρ n g gs → Cv g gs b a
  un : ∀ g gs, Sm ρ n g gs → Cv gs g a b
structure RnL (ρ : Nat → Nat) (n : Nat) (av bs : List AV) : Prop where
  dn : ∀ g gs, Sm ρ n g gs → CvL g gs bs av
  un : ∀ g gs, Sm ρ n g gs → CvL gs g av bs
structure RnR (ρ : Nat → Nat) (n : Nat) (xs ys : List (List AV)) : Prop where
  dn : ∀ g gs, Sm ρ n g gs → CvR g gs ys xs
  un : ∀ g gs, Sm ρ n g gs → CvR gs g xs ys

section
variable {ρ : Nat → Nat} {n : Nat}
theorem Rn.pure {a : AV} (h : Pure a) : Rn ρ n a a := ⟨fun g gs s v hv => h g gs v (by rw [s.mem]; exact fun _ _ _ e => e) hv, fun g gs s v hv => h gs g v (by rw [s.mem]; exact fun _ _ _ e => e) hv⟩
theorem Rn.ptr {i j off : Nat} (hi : i < n) (hj : ρ i = j) : Rn ρ n (.ptr i off) (.ptr j off) := by
  subst hj
  refine ⟨fun g gs s v hv => ?_, fun g gs s v hv => ?_⟩
  · cases hv with | ptr h1 h2 => exact .ptr (Nat.lt_of_lt_of_le hi s.nx) (fun b e => h2 b (by rw [← (s.nm i hi).2.1]; exact e))
  · cases hv with | ptr h1 h2 => exact .ptr (s.nm i hi).1 (fun b e => h2 b (by rw [(s.nm i hi).2.1]; exact e))
theorem Rn.mp {i : Nat} : Rn ρ n (.mp i) (.mp i) := by
  refine ⟨fun g gs s v hv => ?_, fun g gs s v hv => ?_⟩
  · cases hv with | mp h1 => exact .mp (by rw [s.cch]; exact h1)
  · cases hv with | mp h1 => exact .mp (by rw [← s.cch]; exact h1)
theorem Rn.own {i j m : Nat} (hi : i < n) (hj : ρ i = j) : Rn ρ n (.own i m) (.own j m) := by
  subst hj
  refine ⟨fun g gs s v hv => ?_, fun g gs s v hv => ?_⟩
  · cases hv with | own h1 h2 => exact .own (Nat.lt_of_lt_of_le hi s.nx) (fun b c k e => h2 b c k (by rw [← (s.nm i hi).2.2]; exact e))
  · cases hv with | own h1 h2 => exact .own (s.nm i hi).1 (fun b c k e => h2 b c k (by rw [(s.nm i hi).2.2]; exact e))
theorem Rn.ep {i j m s0 k off : Nat} (hi : i < n) (hj : ρ i = j) : Rn ρ n (.ep i m s0 k off) (.ep j m s0 k off) := by
  subst hj
  refine ⟨fun g gs s v hv => ?_, fun g gs s v hv => ?_⟩
  · cases hv with | ep h1 h2 => exact .ep (Nat.lt_of_lt_of_le hi s.nx) (fun b c k e => h2 b c k (by rw [← (s.nm i hi).2.2]; exact e))
  · cases hv with | ep h1 h2 => exact .ep (s.nm i hi).1 (fun b c k e => h2 b c k (by rw [(s.nm i hi).2.2]; exact e))
theorem RnL.nil : RnL ρ n [] [] := ⟨fun _ _ _ => cvL_nil, fun _ _ _ => cvL_nil⟩
theorem RnL.cons {a b : AV} {av bs : List AV} (h : Rn ρ n a b) (k : RnL ρ n av bs) : RnL ρ n (a :: av) (b :: bs) := ⟨fun g gs s => cvL_cons (h.dn g gs s) (k.dn g gs s), fun g gs s => cvL_cons (h.un g gs s) (k.un g gs s)⟩
theorem RnL.pure {av : List AV} (h : ∀ a ∈ av, Pure a) : RnL ρ n av av := by
  induction av with
  | nil => exact .nil
  | cons a av ih => exact .cons (.pure (h a (by simp))) (ih fun b hb => h b (by simp [hb]))
theorem cvL_app {g g' : Gh} : ∀ {av bs cs ds : List AV}, av.length = bs.length → CvL g g' av bs → CvL g g' cs ds → CvL g g' (av ++ cs) (bs ++ ds) := by
  intro av bs cs ds hl h k vs hv
  have hlen : vs.length = av.length + cs.length := by have := hv.1; simpa using this
  have e : vs = vs.take av.length ++ vs.drop av.length := (List.take_append_drop _ _).symm
  have h1 : RepL g (vs.take av.length) av := ⟨by simp; omega, fun i c a e1 e2 => by
    have hi := (List.getElem?_eq_some_iff.1 e2).1
    refine hv.2 i c a ?_ (by rw [List.getElem?_append_left hi]; exact e2)
    rw [List.getElem?_take] at e1; simpa [hi] using e1⟩
  have h2 : RepL g (vs.drop av.length) cs := ⟨by simp; omega, fun i c a e1 e2 => by
    refine hv.2 (av.length + i) c a (by simpa using e1) (by rw [List.getElem?_append_right (by omega)]; simpa using e2)⟩
  rw [e]; exact (h _ h1).append (k _ h2)
theorem RnL.append {av bs cs ds : List AV} (hl : av.length = bs.length) (h : RnL ρ n av bs) (k : RnL ρ n cs ds) : RnL ρ n (av ++ cs) (bs ++ ds) :=
  ⟨fun g gs s => cvL_app hl.symm (h.dn g gs s) (k.dn g gs s), fun g gs s => cvL_app hl (h.un g gs s) (k.un g gs s)⟩
theorem Rn.agg {av bs : List AV} (h : RnL ρ n av bs) : Rn ρ n (.agg av) (.agg bs) := ⟨fun g gs s => cv_agg (h.dn g gs s), fun g gs s => cv_agg (h.un g gs s)⟩
theorem Rn.tup {av bs : List AV} (h : RnL ρ n av bs) : Rn ρ n (.tup av) (.tup bs) := by
  have key : ∀ g g' : Gh, ∀ av bs, CvL g g' av bs → Cv g g' (.tup av) (.tup bs) := fun g g' av bs h v hv => by
    cases hv with | tup h1 h2 => have := h _ ⟨h1, h2⟩; exact .tup this.1 this.2
  exact ⟨fun g gs s => key _ _ _ _ (h.dn g gs s), fun g gs s => key _ _ _ _ (h.un g gs s)⟩
theorem Rn.fn {f : Fn} {av bs cs ds : List AV} (h : RnL ρ n av bs) (k : RnL ρ n cs ds) : Rn ρ n (.fn f av cs) (.fn f bs ds) := by
  have key : ∀ g g' : Gh, ∀ av bs cs ds, CvL g g' av bs → CvL g g' cs ds → Cv g g' (.fn f av cs) (.fn f bs ds) := fun g g' av bs cs ds h k v hv => by
    cases hv with | fn h1 h2 h3 h4 => have p := h _ ⟨h1, h2⟩; have q := k _ ⟨h3, h4⟩; exact .fn p.1 p.2 q.1 q.2
  exact ⟨fun g gs s => key _ _ _ _ _ _ (h.dn g gs s) (k.dn g gs s), fun g gs s => key _ _ _ _ _ _ (h.un g gs s) (k.un g gs s)⟩
theorem RnR.nil : RnR ρ n [] [] := ⟨fun _ _ _ => .nil, fun _ _ _ => .nil⟩
theorem RnR.cons {x y : List AV} {xs ys : List (List AV)} (h : RnL ρ n x y) (hl : x.length = y.length) (k : RnR ρ n xs ys) : RnR ρ n (x :: xs) (y :: ys) :=
  ⟨fun g gs s => .cons (h.dn g gs s) hl.symm (k.dn g gs s), fun g gs s => .cons (h.un g gs s) hl (k.un g gs s)⟩
theorem RnR.pure {xs : List (List AV)} (h : ∀ x ∈ xs, ∀ c ∈ x, Pure c) : RnR ρ n xs xs := by
  induction xs with
  | nil => exact .nil
  | cons x xs ih => exact .cons (.pure (h x (by simp))) rfl (ih fun b hb => h b (by simp [hb]))

/-- The names of the small heap, and behind them the new ones, in the great one. -/
def ren (ρ : Nat → Nat) (n N : Nat) (i : Nat) : Nat := if i < n then ρ i else N + (i - n)
end

section
variable {P : Program}
/-- A part of a heap, under names of its own. -/
theorem HRel.dn {g gs : Gh} {H hs : Hp} {w : World} {ρ : Nat → Nat} (rel : HRel g H w) (sm : Sm ρ hs.nx g gs) (hgn : gs.nx = hs.nx) (hfr : ∀ i, hs.nx ≤ i → gs.box i = Option.none ∧ gs.tok i = Option.none) (hinj : ∀ i j, i < hs.nx → j < hs.nx → ρ i = ρ j → i = j)
    (hb : ∀ p ∈ hs.boxes, p.1 < hs.nx ∧ ∃ cs, lk H.boxes (ρ p.1) = some cs ∧ RnL ρ hs.nx p.2 cs)
    (ht : ∀ p ∈ hs.toks, p.1 < hs.nx ∧ ∃ k, lk H.toks (ρ p.1) = some k ∧ k.fz = p.2.fz ∧ k.s = p.2.s ∧ RnR ρ hs.nx p.2.xs k.xs) : HRel gs hs w ∧ ∀ b, Live gs hs b → Live g H b := by
  have gbx : ∀ i b, gs.box i = some b → i < hs.nx ∧ g.box (ρ i) = some b := fun i b e => by
    rcases Nat.lt_or_ge i hs.nx with h | h
    · exact ⟨h, by rw [← (sm.nm i h).2.1]; exact e⟩
    · rw [(hfr i h).1] at e; cases e
  have gtk : ∀ i b, gs.tok i = some b → i < hs.nx ∧ g.tok (ρ i) = some b := fun i b e => by
    rcases Nat.lt_or_ge i hs.nx with h | h
    · exact ⟨h, by rw [← (sm.nm i h).2.2]; exact e⟩
    · rw [(hfr i h).2] at e; cases e
  have bS : ∀ i, (lk hs.boxes i).isSome = true → (lk H.boxes (ρ i)).isSome = true := fun i e => by
    obtain ⟨c, hc⟩ := Option.isSome_iff_exists.1 e
    obtain ⟨_, cs, h1, _⟩ := hb _ (lk_mem hc)
    rw [h1]; rfl
  have tS : ∀ i, (lk hs.toks i).isSome = true → (lk H.toks (ρ i)).isSome = true := fun i e => by
    obtain ⟨c, hc⟩ := Option.isSome_iff_exists.1 e
    obtain ⟨_, cs, h1, _⟩ := ht _ (lk_mem hc)
    rw [h1]; rfl
  refine ⟨?_, fun b l => ?_⟩
  · refine ⟨hgn, fun b o v e => rel.mem b o v (by rw [← sm.mem]; exact e), fun id cs e => ?_, fun t k e => ?_, fun i j b e1 e2 e3 e4 => ?_, fun i j b c n c' n' e1 e2 e3 e4 => ?_, fun i j b c n e1 e2 e3 e4 => ?_, fun i hi => ?_, fun r' t' e => ?_, fun b' e => rel.cel b' (by rw [← sm.cch]; exact e)⟩
    · obtain ⟨hi, cs', h1, h2⟩ := hb _ (lk_mem e)
      obtain ⟨b, vs, ty, f1, f2, f3, f4, f5⟩ := rel.box _ _ h1
      exact ⟨b, vs, ty, by rw [(sm.nm id hi).2.1]; exact f1, f2, h2.dn g gs sm _ f3, f4, fun o => by rw [sm.mem]; exact f5 o⟩
    · obtain ⟨hi, k', h1, h2, h3, h4⟩ := ht _ (lk_mem e)
      obtain ⟨b, c, vs, ty, f1, f2, f3, f4, f5, f6, f7, f8, f9⟩ := rel.tok _ _ h1
      have hcr := h4.dn g gs sm
      have hlen : k.xs.length = k'.xs.length := hcr.length.symm
      simp only at h2 h3 hlen
      refine ⟨b, c, vs, ty, by rw [(sm.nm t hi).2.2, hlen]; exact f1, f2, by rw [← h3]; exact f3, by rw [hlen]; exact f4, by rw [← h2, hlen]; exact f5, fun x hx => ?_, fun i x j a e1 e2 => ?_, f8, fun o ho => by rw [sm.mem]; exact f9 o (by rw [h2, h3]; exact ho)⟩
      · obtain ⟨i, hi'⟩ := List.getElem?_of_mem hx
        obtain ⟨y, y1, _, y3⟩ := hcr.get i x hi'
        rw [← y3, ← h3]; exact f6 y (List.mem_of_getElem? y1)
      · obtain ⟨y, y1, y2, y3⟩ := hcr.get i x e1
        have hy := f6 y (List.mem_of_getElem? y1)
        have hex : ∀ j', j' < y.length → ∃ v, vs[i * k'.s + j']? = some v := fun j' hj' => by
          obtain ⟨v, hv1, _⟩ := f7 i y j' y[j'] y1 (by simp [hj'])
          exact ⟨v, hv1⟩
        let row : List Value := (List.range y.length).map fun j' => (vs[i * k'.s + j']?).getD (.bool false)
        have hrow : RepL g row y := by
          refine ⟨by simp [row], fun j' c' a' q1 q2 => ?_⟩
          have hj' := (List.getElem?_eq_some_iff.1 q2).1
          obtain ⟨v, hv1, hv2⟩ := f7 i y j' a' y1 q2
          have : c' = v := by simpa [row, hj', hv1] using q1.symm
          rw [this]; exact hv2
        have hr2 := y2 row hrow
        have hj : j < y.length := by rw [y3]; exact (List.getElem?_eq_some_iff.1 e2).1
        obtain ⟨v, hv1⟩ := hex j hj
        refine ⟨v, by rw [← h3]; exact hv1, hr2.2 j v a ?_ e2⟩
        simp [row, hj, hv1]
    · obtain ⟨hi, f1⟩ := gbx i b e1; obtain ⟨hj, f2⟩ := gbx j b e2
      exact hinj i j hi hj (rel.bxbx _ _ b f1 f2 (bS i e3) (bS j e4))
    · obtain ⟨hi, f1⟩ := gtk i _ e1; obtain ⟨hj, f2⟩ := gtk j _ e2
      exact hinj i j hi hj (rel.tktk _ _ b c n c' n' f1 f2 (tS i e3) (tS j e4))
    · obtain ⟨hi, f1⟩ := gbx i b e1; obtain ⟨hj, f2⟩ := gtk j _ e2
      exact rel.bxtk _ _ b c n f1 f2 (bS i e3) (tS j e4)
    · exact hfr i hi
    · rw [sm.cch] at e
      obtain ⟨es, k, e1, e2⟩ := rel.cch r' t' e
      exact ⟨es, k, e1, e2.mono (fun b o v q => by rw [sm.mem]; exact q) (fun r t q => by rw [sm.cch]; exact q)⟩
  · rcases l with ⟨i, c, e1, e2⟩ | ⟨t, k, c, n, e1, e2⟩ | ⟨t', e1⟩
    · obtain ⟨hi, f1⟩ := gbx i b e2
      obtain ⟨c', h1⟩ := Option.isSome_iff_exists.1 (bS i (by rw [e1]; rfl))
      exact .inl ⟨_, c', h1, f1⟩
    · obtain ⟨hi, f1⟩ := gtk t _ e2
      obtain ⟨c', h1⟩ := Option.isSome_iff_exists.1 (tS t (by rw [e1]; rfl))
      exact .inr (.inl ⟨_, c', c, n, h1, f1⟩)
    · exact .inr (.inr ⟨t', by rw [← sm.cch]; exact e1⟩)

open Classical in
theorem SCall.sub {f : FuncId} {av bs : List AV} {hs H : Hp} {Q Q' : AV → Hp → Prop} (ρ : Nat → Nat) (hinj : ∀ i j, i < hs.nx → j < hs.nx → ρ i = ρ j → i = j) (hρ : ∀ i, i < hs.nx → ρ i < H.nx)
    (ha : RnL ρ hs.nx av bs) (hb : ∀ p ∈ hs.boxes, p.1 < hs.nx ∧ ∃ cs, lk H.boxes (ρ p.1) = some cs ∧ RnL ρ hs.nx p.2 cs)
    (ht : ∀ p ∈ hs.toks, p.1 < hs.nx ∧ ∃ k, lk H.toks (ρ p.1) = some k ∧ k.fz = p.2.fz ∧ k.s = p.2.s ∧ RnR ρ hs.nx p.2.xs k.xs)
    (hc : SCall P f av hs Q)
    (hq : ∀ r h', Q r h' → hs.nx ≤ h'.nx → ∃ r' H' m, hs.nx + m ≤ h'.nx ∧ H'.nx = H.nx + m ∧ Rn (ren ρ hs.nx H.nx) (hs.nx + m) r r' ∧
      (∀ id cs', lk H'.boxes id = some cs' → (∃ i cs, i < hs.nx + m ∧ ren ρ hs.nx H.nx i = id ∧ lk h'.boxes i = some cs ∧ RnL (ren ρ hs.nx H.nx) (hs.nx + m) cs cs') ∨ (lk H.boxes id = some cs' ∧ ∀ i c, lk hs.boxes i = some c → ρ i ≠ id)) ∧
      (∀ id k', lk H'.toks id = some k' → (∃ i k, i < hs.nx + m ∧ ren ρ hs.nx H.nx i = id ∧ lk h'.toks i = some k ∧ k'.fz = k.fz ∧ k'.s = k.s ∧ RnR (ren ρ hs.nx H.nx) (hs.nx + m) k.xs k'.xs) ∨ (lk H.toks id = some k' ∧ ∀ i, i < hs.nx → ρ i ≠ id)) ∧
      Q' r' H') : SCall P f bs H Q' := by
  intro g w vals rel hv
  let gs : Gh := ⟨g.mem, fun i => if i < hs.nx then g.box (ρ i) else none, fun i => if i < hs.nx then g.tok (ρ i) else none, hs.nx, g.cch⟩
  have sm : Sm ρ hs.nx g gs := ⟨rfl, Nat.le_refl _, fun i hi => ⟨by rw [rel.nx]; exact hρ i hi, by simp [gs, hi], by simp [gs, hi]⟩, rfl⟩
  have gbx : ∀ i b, gs.box i = some b → i < hs.nx ∧ g.box (ρ i) = some b := fun i b e => by
    simp only [gs] at e; split at e
    · rename_i h; exact ⟨h, e⟩
    · cases e
  have gtk : ∀ i b, gs.tok i = some b → i < hs.nx ∧ g.tok (ρ i) = some b := fun i b e => by
    simp only [gs] at e; split at e
    · rename_i h; exact ⟨h, e⟩
    · cases e
  have bS : ∀ i, (lk hs.boxes i).isSome = true → (lk H.boxes (ρ i)).isSome = true := fun i e => by
    obtain ⟨c, hc⟩ := Option.isSome_iff_exists.1 e
    obtain ⟨_, cs, h1, _⟩ := hb _ (lk_mem hc)
    rw [h1]; rfl
  have tS : ∀ i, (lk hs.toks i).isSome = true → (lk H.toks (ρ i)).isSome = true := fun i e => by
    obtain ⟨c, hc⟩ := Option.isSome_iff_exists.1 e
    obtain ⟨_, cs, h1, _⟩ := ht _ (lk_mem hc)
    rw [h1]; rfl
  have hfr : ∀ i, hs.nx ≤ i → gs.box i = none ∧ gs.tok i = none := fun i hi => by
    have h1 : ¬ i < hs.nx := by omega
    exact ⟨if_neg h1, if_neg h1⟩
  have both := rel.dn sm rfl hfr hinj hb ht
  have rel0 : HRel gs hs w := both.1
  have lift := both.2
  refine (hc gs w vals rel0 (ha.dn g gs sm _ hv)).mono fun e w' ⟨v, r, h', gs', e1, e2, s, e4⟩ => ?_
  have hnx : hs.nx ≤ h'.nx := by rw [← s.hp.nx]; exact s.ext.nx
  obtain ⟨r', H', m, hm, hN, hr, hbx, htk, hQ'⟩ := hq r h' e4 hnx
  let g' : Gh := ⟨gs'.mem, fun i => if i < H.nx then g.box i else if i < H.nx + m then gs'.box (hs.nx + (i - H.nx)) else none,
    fun t => if t < H.nx then (if q : ∃ i, i < hs.nx ∧ ρ i = t then gs'.tok q.choose else g.tok t) else if t < H.nx + m then gs'.tok (hs.nx + (t - H.nx)) else none, H.nx + m, gs'.cch⟩
  have gtok : ∀ i, i < hs.nx → g'.tok (ρ i) = gs'.tok i := fun i hi => by
    have q : ∃ j, j < hs.nx ∧ ρ j = ρ i := ⟨i, hi, rfl⟩
    have : q.choose = i := hinj _ _ q.choose_spec.1 hi q.choose_spec.2
    simp only [g', hρ i hi, if_true, dif_pos q, this]
  have sm' : Sm (ren ρ hs.nx H.nx) (hs.nx + m) g' gs' := by
    refine ⟨rfl, by rw [s.hp.nx]; exact hm, fun i hi => ?_, rfl⟩
    by_cases h1 : i < hs.nx
    · have er : ren ρ hs.nx H.nx i = ρ i := by simp [ren, h1]
      rw [er]
      have := hρ i h1
      refine ⟨by simp only [g']; omega, ?_, (gtok i h1).symm⟩
      rw [s.ext.box i h1, (sm.nm i h1).2.1]; simp [g', this]
    · have er : ren ρ hs.nx H.nx i = H.nx + (i - hs.nx) := by simp [ren, h1]
      rw [er]
      have a1 : ¬ H.nx + (i - hs.nx) < H.nx := by omega
      have a2 : H.nx + (i - hs.nx) < H.nx + m := by omega
      have a3 : hs.nx + (H.nx + (i - hs.nx) - H.nx) = i := by omega
      refine ⟨by simp only [g']; omega, ?_, ?_⟩
      · simp only [g', if_neg a1, if_pos a2, a3]
      · simp only [g', if_neg a1, if_pos a2, a3]
  have hext : Ext g g' := by
    refine ⟨by rw [rel.nx]; exact Nat.le_add_right _ _, fun b o v e => s.ext.mem b o v e, fun id hi => ?_, fun t h1 => ?_, fun r' t' e => s.ext.cch r' t' e⟩
    · rw [rel.nx] at hi; simp [g', hi]
    · rw [rel.nx] at h1
      simp only [g', h1, if_true]
      by_cases q : ∃ i, i < hs.nx ∧ ρ i = t
      · rw [dif_pos q]
        have := s.ext.tok q.choose q.choose_spec.1
        rw [(sm.nm _ q.choose_spec.1).2.2, q.choose_spec.2] at this
        exact this
      · rw [dif_neg q]; exact tokMono.refl _
  -- a framed block is none that the call may write
  have deadB : ∀ id cs b, lk H.boxes id = some cs → (∀ i c, lk hs.boxes i = some c → ρ i ≠ id) → g.box id = some b → ¬ Live gs hs b := by
    intro id cs b e1 e2 e3 l
    rcases l with ⟨j, c', f1, f2⟩ | ⟨t, k, c', n, f1, f2⟩ | ⟨t, f1⟩
    case inr.inr =>
      obtain ⟨b', vs, ty, q1, q2, _⟩ := rel.box id cs e1
      obtain ⟨es, k, q3, _⟩ := rel.cch b t f1
      rw [e3] at q1; cases q1
      rw [q2] at q3; cases q3
    · obtain ⟨hj, f3⟩ := gbx j b f2
      exact e2 j c' f1 (rel.bxbx _ _ b f3 e3 (bS j (by rw [f1]; rfl)) (by rw [e1]; rfl))
    · obtain ⟨hj, f3⟩ := gtk t _ f2
      exact rel.bxtk _ _ b c' n e3 f3 (by rw [e1]; rfl) (tS t (by rw [f1]; rfl))
  have deadT : ∀ id k b c n, lk H.toks id = some k → (∀ i, i < hs.nx → ρ i ≠ id) → g.tok id = some (b, c, n) → ¬ Live gs hs b := by
    intro id k b c n e1 e2 e3 l
    rcases l with ⟨j, c', f1, f2⟩ | ⟨t, k', c', n', f1, f2⟩ | ⟨t, f1⟩
    case inr.inr =>
      obtain ⟨b', c1, vs, ty, q1, q2, _⟩ := rel.tok id k e1
      obtain ⟨es, k, q3, _⟩ := rel.cch b t f1
      rw [e3] at q1; cases q1
      rw [q2] at q3; cases q3
    · obtain ⟨hj, f3⟩ := gbx j b f2
      exact rel.bxtk _ _ b c n f3 e3 (bS j (by rw [f1]; rfl)) (by rw [e1]; rfl)
    · obtain ⟨hj, f3⟩ := gtk t _ f2
      exact e2 t hj (rel.tktk _ _ b c' n' c n f3 e3 (tS t (by rw [f1]; rfl)) (by rw [e1]; rfl))
  have memn : ∀ b o, b < w.heap.size → ¬ Live gs hs b → g.mem b o = none → g'.mem b o = none := fun b o hb hd e => by
    cases q : g'.mem b o with
    | none => rfl
    | some v =>
      rcases s.memo b o v q with q1 | q1 | q1
      · have q1 : g.mem b o = some v := q1
        rw [e] at q1; cases q1
      · exact (hd q1).elim
      · omega
  -- where the great heap's variables and slices lie
  have kindB : ∀ id cs, lk H'.boxes id = some cs → (∃ i c b vs ty, i < hs.nx + m ∧ ren ρ hs.nx H.nx i = id ∧ lk h'.boxes i = some c ∧ g'.box id = some b ∧ gs'.box i = some b ∧ w'.heap[b]? = some (.cells vs ty (0, 0)) ∧ RepL g' vs.toList cs ∧ (∀ v ∈ vs.toList, v.oneCell' = true) ∧ (∀ o, g'.mem b o = none) ∧ (Live gs hs b ∨ w.heap.size ≤ b)) ∨
      (∃ b vs ty, lk H.boxes id = some cs ∧ (∀ i c, lk hs.boxes i = some c → ρ i ≠ id) ∧ g'.box id = some b ∧ g.box id = some b ∧ b < w.heap.size ∧ ¬ Live gs hs b ∧ w'.heap[b]? = some (.cells vs ty (0, 0)) ∧ RepL g' vs.toList cs ∧ (∀ v ∈ vs.toList, v.oneCell' = true) ∧ ∀ o, g'.mem b o = none) := by
    intro id cs e
    rcases hbx _ _ e with ⟨i, c, h1, h2, h3, h4⟩ | ⟨h1, h2⟩
    · obtain ⟨b, vs, ty, f1, f2, f3, f4, f5⟩ := s.hp.box i c h3
      have hb' : g'.box id = some b := by rw [← (show ren ρ hs.nx H.nx i = id from h2), ← (sm'.nm i h1).2.1]; exact f1
      exact .inl ⟨i, c, b, vs, ty, h1, h2, h3, hb', f1, f2, h4.un g' gs' sm' _ f3, f4, f5, s.live b (.inl ⟨i, c, h3, f1⟩)⟩
    · obtain ⟨b, vs, ty, f1, f2, f3, f4, f5⟩ := rel.box id cs h1
      have hid := rel.box_lt h1
      have hd := deadB id cs b h1 h2 f1
      have hlt := block_lt f2
      exact .inr ⟨b, vs, ty, h1, h2, by simp only [g', hid, if_true]; exact f1, f1, hlt, hd, by rw [s.keeps.block b hlt hd]; exact f2, f3.mono hext, f4, fun o => memn b o hlt hd (f5 o)⟩
  have kindT : ∀ id k, lk H'.toks id = some k → (∃ i k0 b c n, i < hs.nx + m ∧ ren ρ hs.nx H.nx i = id ∧ lk h'.toks i = some k0 ∧ g'.tok id = some (b, c, n) ∧ gs'.tok i = some (b, c, n) ∧ (Live gs hs b ∨ w.heap.size ≤ b) ∧ k.fz = k0.fz ∧ k.s = k0.s ∧ RnR (ren ρ hs.nx H.nx) (hs.nx + m) k0.xs k.xs) ∨
      (∃ b c n, lk H.toks id = some k ∧ (∀ i, i < hs.nx → ρ i ≠ id) ∧ g'.tok id = some (b, c, n) ∧ g.tok id = some (b, c, n) ∧ b < w.heap.size ∧ ¬ Live gs hs b) := by
    intro id k e
    rcases htk _ _ e with ⟨i, k0, h1, h2, h3, h4, h5, h6⟩ | ⟨h1, h2⟩
    · obtain ⟨b, c, vs, ty, f1, _⟩ := s.hp.tok i k0 h3
      have ht' : g'.tok id = some (b, c, k0.xs.length) := by rw [← (show ren ρ hs.nx H.nx i = id from h2), ← (sm'.nm i h1).2.2]; exact f1
      exact .inl ⟨i, k0, b, c, _, h1, h2, h3, ht', f1, s.live b (.inr (.inl ⟨i, k0, c, _, h3, f1⟩)), h4, h5, h6⟩
    · obtain ⟨b, c, vs, ty, f1, f2, _⟩ := rel.tok id k h1
      have hid := rel.tok_lt h1
      have hd := deadT id k b c _ h1 h2 f1
      have : ¬ ∃ i, i < hs.nx ∧ ρ i = id := fun ⟨i, q1, q2⟩ => h2 i q1 q2
      exact .inr ⟨b, c, _, h1, h2, by simp only [g', hid, if_true, dif_neg this]; exact f1, f1, block_lt f2, hd⟩
  have hp' : HRel g' H' w' := by
    refine ⟨hN.symm, s.hp.mem, fun id cs e => ?_, fun t k e => ?_, fun i j b e1 e2 e3 e4 => ?_, fun i j b c n c' n' e1 e2 e3 e4 => ?_, fun i j b c n e1 e2 e3 e4 => ?_, fun i hi => ?_, s.hp.cch, s.hp.cel⟩
    · rcases kindB id cs e with ⟨i, c, b, vs, ty, _, _, _, q1, _, q2, q3, q4, q5, _⟩ | ⟨b, vs, ty, _, _, q1, _, _, _, q2, q3, q4, q5⟩
      · exact ⟨b, vs, ty, q1, q2, q3, q4, q5⟩
      · exact ⟨b, vs, ty, q1, q2, q3, q4, q5⟩
    · rcases kindT t k e with ⟨i, k0, b, c, n, h1, h2, h3, q1, q2, _, h4, h5, h6⟩ | ⟨b, c, n, h1, h2, q1, q2, hlt, hd⟩
      · obtain ⟨b', c', vs, ty, f1, f2, f3, f4, f5, f6, f7, f8, f9⟩ := s.hp.tok i k0 h3
        have hcr := h6.un g' gs' sm'
        have hlen : k0.xs.length = k.xs.length := hcr.length
        rw [q2] at f1; cases f1
        refine ⟨b, c, vs, ty, by rw [q1, hlen], f2, by rw [h5]; exact f3, by rw [← hlen]; exact f4, by rw [h4, ← hlen]; exact f5, fun x hx => ?_, fun i' x j a e1 e2 => ?_, f8, fun o ho => f9 o (by rw [← h4, ← h5]; exact ho)⟩
        · obtain ⟨i', hi'⟩ := List.getElem?_of_mem hx
          obtain ⟨y, y1, _, y3⟩ := hcr.get i' x hi'
          rw [← y3, h5]; exact f6 y (List.mem_of_getElem? y1)
        · obtain ⟨y, y1, y2, y3⟩ := hcr.get i' x e1
          let row : List Value := (List.range y.length).map fun j' => (vs[i' * k0.s + j']?).getD (.bool false)
          have hrow : RepL gs' row y := by
            refine ⟨by simp [row], fun j' c' a' q1 q2 => ?_⟩
            have hj' := (List.getElem?_eq_some_iff.1 q2).1
            obtain ⟨v, hv1, hv2⟩ := f7 i' y j' a' y1 q2
            have : c' = v := by simpa [row, hj', hv1] using q1.symm
            rw [this]; exact hv2
          have hr2 := y2 row hrow
          have hj : j < y.length := by rw [y3]; exact (List.getElem?_eq_some_iff.1 e2).1
          obtain ⟨v, hv1, _⟩ := f7 i' y j y[j] y1 (by simp [hj])
          refine ⟨v, by rw [h5]; exact hv1, hr2.2 j v a ?_ e2⟩
          simp [row, hj, hv1]
      · obtain ⟨b', c', vs, ty, f1, f2, f3, f4, f5, f6, f7, f8, f9⟩ := rel.tok t k h1
        rw [q2] at f1; cases f1
        refine ⟨b, c, vs, ty, q1, by rw [s.keeps.block b hlt hd]; exact f2, f3, f4, f5, f6, fun i x j a e1 e2 => ?_, f8, fun o ho => memn b o hlt hd (f9 o ho)⟩
        obtain ⟨v, y1, y2⟩ := f7 i x j a e1 e2
        exact ⟨v, y1, y2.mono hext⟩
    · obtain ⟨ci, hi⟩ := Option.isSome_iff_exists.1 e3
      obtain ⟨cj, hj⟩ := Option.isSome_iff_exists.1 e4
      rcases kindB i ci hi with ⟨i0, c0, b0, _, _, a1, a2, a3, a4, a5, _, _, _, _, a6⟩ | ⟨b0, _, _, a1, a2, a3, a4, a5, a6, _⟩ <;>
      rcases kindB j cj hj with ⟨j0, d0, b1, _, _, k1, k2, k3, k4, k5, _, _, _, _, k6⟩ | ⟨b1, _, _, k1, k2, k3, k4, k5, k6, _⟩
      · rw [e1] at a4; cases a4; rw [e2] at k4; cases k4
        have := s.hp.bxbx i0 j0 b a5 k5 (by rw [a3]; rfl) (by rw [k3]; rfl)
        rw [← a2, ← k2, this]
      · rw [e1] at a4; cases a4; rw [e2] at k3; cases k3
        rcases a6 with q | q
        · exact (k6 q).elim
        · omega
      · rw [e1] at a3; cases a3; rw [e2] at k4; cases k4
        rcases k6 with q | q
        · exact (a6 q).elim
        · omega
      · rw [e1] at a3; cases a3; rw [e2] at k3; cases k3
        exact rel.bxbx i j b a4 k4 (by rw [a1]; rfl) (by rw [k1]; rfl)
    · obtain ⟨ci, hi⟩ := Option.isSome_iff_exists.1 e3
      obtain ⟨cj, hj⟩ := Option.isSome_iff_exists.1 e4
      rcases kindT i ci hi with ⟨i0, c0, b0, c1, n1, a1, a2, a3, a4, a5, a6, _⟩ | ⟨b0, c1, n1, a1, a2, a3, a4, a5, a6⟩ <;>
      rcases kindT j cj hj with ⟨j0, d0, b1, c2, n2, k1, k2, k3, k4, k5, k6, _⟩ | ⟨b1, c2, n2, k1, k2, k3, k4, k5, k6⟩
      · rw [e1] at a4; cases a4; rw [e2] at k4; cases k4
        have := s.hp.tktk i0 j0 _ _ _ _ _ a5 k5 (by rw [a3]; rfl) (by rw [k3]; rfl)
        rw [← a2, ← k2, this]
      · rw [e1] at a4; cases a4; rw [e2] at k3; cases k3
        rcases a6 with q | q
        · exact (k6 q).elim
        · omega
      · rw [e1] at a3; cases a3; rw [e2] at k4; cases k4
        rcases k6 with q | q
        · exact (a6 q).elim
        · omega
      · rw [e1] at a3; cases a3; rw [e2] at k3; cases k3
        exact rel.tktk i j _ _ _ _ _ a4 k4 (by rw [a1]; rfl) (by rw [k1]; rfl)
    · obtain ⟨ci, hi⟩ := Option.isSome_iff_exists.1 e3
      obtain ⟨cj, hj⟩ := Option.isSome_iff_exists.1 e4
      rcases kindB i ci hi with ⟨i0, c0, b0, _, _, a1, a2, a3, a4, a5, _, _, _, _, a6⟩ | ⟨b0, _, _, a1, a2, a3, a4, a5, a6, _⟩ <;>
      rcases kindT j cj hj with ⟨j0, d0, b1, c2, n2, k1, k2, k3, k4, k5, k6, _⟩ | ⟨b1, c2, n2, k1, k2, k3, k4, k5, k6⟩
      · rw [e1] at a4; cases a4; rw [e2] at k4; cases k4
        exact s.hp.bxtk i0 j0 _ _ _ a5 k5 (by rw [a3]; rfl) (by rw [k3]; rfl)
      · rw [e1] at a4; cases a4; rw [e2] at k3; cases k3
        rcases a6 with q | q
        · exact (k6 q).elim
        · omega
      · rw [e1] at a3; cases a3; rw [e2] at k4; cases k4
        rcases k6 with q | q
        · exact (a6 q).elim
        · omega
      · rw [e1] at a3; cases a3; rw [e2] at k3; cases k3
        exact rel.bxtk i j _ _ _ a4 k4 (by rw [a1]; rfl) (by rw [k1]; rfl)
    · rw [hN] at hi
      have a1 : ¬ i < H.nx := by omega
      have a2 : ¬ i < H.nx + m := by omega
      exact ⟨by simp only [g', if_neg a1, if_neg a2], by simp only [g', if_neg a1, if_neg a2]⟩
  refine ⟨v, r', H', g', e1, hr.un g' gs' sm' _ e2, ⟨hp', hext, ⟨s.keeps.os, s.keeps.tape, s.keeps.output, s.keeps.drawn, s.keeps.size, fun b hb' hF => s.keeps.block b hb' (fun l => hF (lift b l))⟩, fun b l => ?_, fun b o v e => (s.memo b o v e).imp id (fun q => q.imp (lift b) id)⟩, hQ'⟩
  rcases l with ⟨i, c, f1, f2⟩ | ⟨t, k, c, n, f1, f2⟩ | f1
  · rcases kindB i c f1 with ⟨i0, c0, b0, _, _, a1, a2, a3, a4, a5, _, _, _, _, a6⟩ | ⟨b0, _, _, a1, a2, a3, a4, a5, a6, _⟩
    · rw [f2] at a4; cases a4; exact a6.imp (lift _) id
    · rw [f2] at a3; cases a3; exact .inl (.inl ⟨i, c, a1, a4⟩)
  · rcases kindT t k f1 with ⟨i0, c0, b0, c1, n1, a1, a2, a3, a4, a5, a6, _⟩ | ⟨b0, c1, n1, a1, a2, a3, a4, a5, a6⟩
    · rw [f2] at a4; cases a4; exact a6.imp (lift _) id
    · rw [f2] at a3; cases a3; exact .inl (.inr (.inl ⟨t, k, c, n, a1, a4⟩))
  · exact (s.live b (.inr (.inr f1))).imp (fun q => lift b q) id

/-- To know less of the slots alone. -/
theorem St.wk_slots {sl sl' : List (Nat × AV)} {h : Hp} {n : Nat} (hs : ∀ p ∈ sl', lk sl p.1 = some p.2) : St.wk ⟨sl, h, n⟩ ⟨sl', h, n⟩ :=
  fun _ _ _ g _ _ r => ⟨g, ⟨r.st, fun s v e => r.slots s v (hs _ (lk_mem e)), r.nt, r.defers⟩⟩

/-- Names by a list. -/
def rho (l : List Nat) (i : Nat) : Nat := l.getD i 0
theorem rho_inj {l : List Nat} (h : l.Nodup) (i j : Nat) (hi : i < l.length) (hj : j < l.length) (e : rho l i = rho l j) : i = j := by
  simp only [rho, List.getD_eq_getElem?_getD, List.getElem?_eq_getElem hi, List.getElem?_eq_getElem hj, Option.getD_some] at e
  exact (List.getElem_inj h).1 e
theorem rho_lt {l : List Nat} {N : Nat} (h : ∀ x ∈ l, x < N) (i : Nat) (hi : i < l.length) : rho l i < N := by
  simp only [rho, List.getD_eq_getElem?_getD, List.getElem?_eq_getElem hi, Option.getD_some]
  exact h _ (List.getElem_mem _)

/-- A call that only reads what it sees. -/
def ro (h : Hp) (r0 : AV) (r : AV) (h' : Hp) : Prop := r = r0 ∧ h'.boxes = h.boxes ∧ h'.toks = h.toks
theorem QCall.sub {f : FuncId} {av bs : List AV} {hs H : Hp} {r0 r1 : AV} (l : List Nat) (hl : hs.nx = l.length) (hnd : l.Nodup) (hlt : ∀ x ∈ l, x < H.nx)
    (ha : RnL (rho l) hs.nx av bs) (hb : ∀ p ∈ hs.boxes, p.1 < hs.nx ∧ ∃ cs, lk H.boxes (rho l p.1) = some cs ∧ RnL (rho l) hs.nx p.2 cs)
    (ht : ∀ p ∈ hs.toks, p.1 < hs.nx ∧ ∃ k, lk H.toks (rho l p.1) = some k ∧ k.fz = p.2.fz ∧ k.s = p.2.s ∧ RnR (rho l) hs.nx p.2.xs k.xs)
    (hA : ∀ i, i < hs.nx → lk hs.toks i = none → lk H.toks (rho l i) = none)
    (hc0 : QCall P f av hs r0) (hr : Rn (rho l) hs.nx r0 r1) : QCall P f bs H r1 := by
  have hc : SCall P f av hs (ro hs r0) := hc0.mono fun r h' e => ⟨e.1, by rw [e.2], by rw [e.2]⟩
  have hi := rho_inj hnd
  have ii : ∀ i, i < hs.nx → ren (rho l) hs.nx H.nx i = rho l i := fun i h => by simp [ren, h]
  have sm : ∀ g gs, Sm (ren (rho l) hs.nx H.nx) (hs.nx + 0) g gs → Sm (rho l) hs.nx g gs := fun g gs s => ⟨s.mem, s.nx, fun i h => by have := s.nm i h; rwa [ii i h] at this, s.cch⟩
  refine SCall.sub (rho l) (fun i j h1 h2 => hi i j (hl ▸ h1) (hl ▸ h2)) (fun i h1 => rho_lt hlt i (hl ▸ h1)) ha hb ht hc ?_
  rintro r h' ⟨rfl, hbx, htk⟩ hnx
  refine ⟨r1, H, 0, hnx, rfl, ⟨fun g gs s => hr.dn g gs (sm g gs s), fun g gs s => hr.un g gs (sm g gs s)⟩, fun id cs' e => ?_, fun id k' e => ?_, rfl, rfl⟩
  · by_cases q : ∃ i c, lk hs.boxes i = some c ∧ rho l i = id
    · obtain ⟨i, c, q1, q2⟩ := q
      obtain ⟨hin, cs, h1, h2⟩ := hb _ (lk_mem q1)
      simp only at hin h1 h2
      rw [q2, e] at h1; cases h1
      exact .inl ⟨i, c, hin, by rw [ii i hin]; exact q2, by rw [hbx]; exact q1, ⟨fun g gs s => h2.dn g gs (sm g gs s), fun g gs s => h2.un g gs (sm g gs s)⟩⟩
    · exact .inr ⟨e, fun i c h1 h2 => q ⟨i, c, h1, h2⟩⟩
  · by_cases q : ∃ i, i < hs.nx ∧ rho l i = id
    · obtain ⟨i, q1, q2⟩ := q
      cases hk : lk hs.toks i with
      | none => have := hA i q1 hk; rw [q2, e] at this; cases this
      | some k =>
        obtain ⟨hin, k2, h1, h2, h3, h4⟩ := ht _ (lk_mem hk)
        simp only at hin h1 h2 h3 h4
        rw [q2, e] at h1; cases h1
        exact .inl ⟨i, k, hin, by rw [ii i hin]; exact q2, by rw [htk]; exact hk, h2, h3, ⟨fun g gs s => h4.dn g gs (sm g gs s), fun g gs s => h4.un g gs (sm g gs s)⟩⟩
    · exact .inr ⟨e, fun i h1 h2 => q ⟨i, h1, h2⟩⟩
end
end Go.Ab
