/- Variables that a call does not see stay as they are. Conditions: those that each theorem names. -/
import Derived.Test.YtfnmdmadaljjkaaConv
namespace Go.Ab
section
variable {P : Program} {g : Gh} {w : World}

theorem Step1.frame {bs b1 bs' : List (Nat × List AV)} {tk : List (Nat × Tk)} {N : Nat} {g' : Gh} {h1' : Hp} {w' : World} (r : HRel g ⟨bs, tk, N⟩ w) (hsub : ∀ i c, lk b1 i = some c → lk bs i = some c)
    (s : Step1 g ⟨b1, tk, N⟩ w g' h1' w') (hb : ∀ i c, lk bs' i = some c → lk h1'.boxes i = some c ∨ (lk bs i = some c ∧ lk b1 i = none)) : Step1 g ⟨bs, tk, N⟩ w g' ⟨bs', h1'.toks, h1'.nx⟩ w' := by
  have lift : ∀ b, Live g ⟨b1, tk, N⟩ b → Live g ⟨bs, tk, N⟩ b := fun b l => by
    rcases l with ⟨i, c, e1, e2⟩ | ⟨t, k, c, n, e1, e2⟩ | e1
    · exact .inl ⟨i, c, hsub i c e1, e2⟩
    · exact .inr (.inl ⟨t, k, c, n, e1, e2⟩)
    · exact .inr (.inr e1)
  -- a variable that the call does not see lies in no block of what it sees
  have dead : ∀ i c b, lk bs i = some c → lk b1 i = none → g.box i = some b → ¬ Live g ⟨b1, tk, N⟩ b := by
    intro i c b e1 e2 e3 l
    rcases l with ⟨j, c', f1, f2⟩ | ⟨t, k, c', n, f1, f2⟩ | ⟨t, f1⟩
    · have := r.bxbx i j b e3 f2 (by rw [e1]; rfl) (by rw [hsub j c' f1]; rfl)
      subst this; rw [e2] at f1; cases f1
    · exact r.bxtk i t b c' n e3 f2 (by rw [e1]; rfl) (by show (lk tk t).isSome = true; rw [f1]; rfl)
    · obtain ⟨b', vs, ty, q1, q2, _⟩ := r.box i c e1
      obtain ⟨es, k, q3, _⟩ := r.cch b t f1
      rw [e3] at q1; cases q1
      rw [q2] at q3; cases q3
  have nxi : ∀ i c, lk bs i = some c → i < g.nx := fun i c e => by
    obtain ⟨b, vs, ty, e1, _⟩ := r.box i c e
    rcases Nat.lt_or_ge i g.nx with q | q
    · exact q
    · have := (r.fresh i (by rw [← r.nx]; exact q)).1; rw [e1] at this; cases this
  have old : ∀ i c, lk bs i = some c → lk b1 i = none → ∃ b vs ty, g'.box i = some b ∧ g.box i = some b ∧ b < w.heap.size ∧ w'.heap[b]? = some (.cells vs ty (0, 0)) ∧ RepL g' vs.toList c ∧ (∀ v ∈ vs.toList, v.oneCell' = true) ∧ ∀ o, g'.mem b o = none := by
    intro i c e1 e2
    obtain ⟨b, vs, ty, f1, f2, f3, f4, f5⟩ := r.box i c e1
    have hlt : b < w.heap.size := block_lt f2
    have hd := dead i c b e1 e2 f1
    refine ⟨b, vs, ty, by rw [s.ext.box i (nxi i c e1)]; exact f1, f1, hlt, by rw [s.keeps.block b hlt hd]; exact f2, f3.mono s.ext, f4, fun o => ?_⟩
    cases q : g'.mem b o with
    | none => rfl
    | some v =>
      rcases s.memo b o v q with q1 | q1 | q1
      · rw [f5 o] at q1; cases q1
      · exact (hd q1).elim
      · omega
  have newb : ∀ j c b, lk h1'.boxes j = some c → g'.box j = some b → Live g ⟨b1, tk, N⟩ b ∨ w.heap.size ≤ b := fun j c b e1 e2 => s.live b (.inl ⟨j, c, e1, e2⟩)
  refine ⟨⟨s.hp.nx, s.hp.mem, fun i c e => ?_, s.hp.tok, fun i j b e1 e2 e3 e4 => ?_, s.hp.tktk, fun i j b c n e1 e2 e3 e4 => ?_, s.hp.fresh, s.hp.cch, s.hp.cel⟩, s.ext, ⟨s.keeps.os, s.keeps.tape, s.keeps.output, s.keeps.drawn, s.keeps.size, fun b hb' hF => s.keeps.block b hb' (fun l => hF (lift b l))⟩, fun b l => ?_, fun b o v e => (s.memo b o v e).imp id (fun q => q.imp (lift b) id)⟩
  · rcases hb i c e with q | ⟨q1, q2⟩
    · exact s.hp.box i c q
    · obtain ⟨b, vs, ty, f1, _, _, f2, f3, f4, f5⟩ := old i c q1 q2
      exact ⟨b, vs, ty, f1, f2, f3, f4, f5⟩
  · obtain ⟨ci, hi⟩ := Option.isSome_iff_exists.1 e3
    obtain ⟨cj, hj⟩ := Option.isSome_iff_exists.1 e4
    rcases hb i ci hi with q | ⟨q1, q2⟩ <;> rcases hb j cj hj with p | ⟨p1, p2⟩
    · exact s.hp.bxbx i j b e1 e2 (by rw [q]; rfl) (by rw [p]; rfl)
    · obtain ⟨b', vs, ty, f1, f0, flt, _⟩ := old j cj p1 p2
      rw [e2] at f1; cases f1
      rcases newb i ci b q e1 with l | l
      · exact (dead j cj b p1 p2 f0 l).elim
      · omega
    · obtain ⟨b', vs, ty, f1, f0, flt, _⟩ := old i ci q1 q2
      rw [e1] at f1; cases f1
      rcases newb j cj b p e2 with l | l
      · exact (dead i ci b q1 q2 f0 l).elim
      · omega
    · obtain ⟨b', _, _, f1, f0, _⟩ := old i ci q1 q2
      obtain ⟨b'', _, _, k1, k0, _⟩ := old j cj p1 p2
      rw [e1] at f1; cases f1
      rw [e2] at k1; cases k1
      exact r.bxbx i j b f0 k0 (by rw [q1]; rfl) (by rw [p1]; rfl)
  · obtain ⟨ci, hi⟩ := Option.isSome_iff_exists.1 e3
    rcases hb i ci hi with q | ⟨q1, q2⟩
    · exact s.hp.bxtk i j b c n e1 e2 (by rw [q]; rfl) e4
    · obtain ⟨b', vs, ty, f1, f0, flt, _⟩ := old i ci q1 q2
      rw [e1] at f1; cases f1
      obtain ⟨k, hk⟩ := Option.isSome_iff_exists.1 e4
      rcases s.live b (.inr (.inl ⟨j, k, c, n, hk, e2⟩)) with l | l
      · exact dead i ci b q1 q2 f0 l
      · omega
  · rcases l with ⟨i, c, e1, e2⟩ | ⟨t, k, c, n, e1, e2⟩ | e1
    · rcases hb i c e1 with q | ⟨q1, q2⟩
      · exact (s.live b (.inl ⟨i, c, q, e2⟩)).imp (lift b) id
      · obtain ⟨b', vs, ty, f1, f0, flt, _⟩ := old i c q1 q2
        rw [e2] at f1; cases f1
        exact .inl (.inl ⟨i, c, q1, f0⟩)
    · exact (s.live b (.inr (.inl ⟨t, k, c, n, e1, e2⟩))).imp (lift b) id
    · exact (s.live b (.inr (.inr e1))).imp (lift b) id

theorem HRel.lessB {bs b1 : List (Nat × List AV)} {tk : List (Nat × Tk)} {N : Nat} (r : HRel g ⟨bs, tk, N⟩ w) (hsub : ∀ i c, lk b1 i = some c → lk bs i = some c) : HRel g ⟨b1, tk, N⟩ w := by
  have up' : ∀ i, (lk b1 i).isSome = true → (lk bs i).isSome = true := fun i e => by
    obtain ⟨c, hc⟩ := Option.isSome_iff_exists.1 e; rw [hsub i c hc]; rfl
  exact ⟨r.nx, r.mem, fun i c e => r.box i c (hsub i c e), r.tok, fun i j b e1 e2 e3 e4 => r.bxbx i j b e1 e2 (up' i e3) (up' j e4), r.tktk, fun i j b c n e1 e2 e3 e4 => r.bxtk i j b c n e1 e2 (up' i e3) e4, r.fresh, r.cch, r.cel⟩

/-- A call that sees no variable. -/
theorem SCall.frame {f : FuncId} {args : List AV} {bs : List (Nat × List AV)} {tk : List (Nat × Tk)} {N : Nat} {Q : AV → Hp → Prop} (hc : SCall P f args ⟨[], tk, N⟩ Q) : SCall P f args ⟨bs, tk, N⟩ fun r h' => ∃ b', Q r ⟨b', h'.toks, h'.nx⟩ ∧ h'.boxes = bs := by
  intro g w vals r hv
  have hsub : ∀ i c, lk ([] : List (Nat × List AV)) i = some c → lk bs i = some c := fun i c e => by cases e
  refine (hc g w vals (r.lessB hsub) hv).mono fun e w' ⟨v, r', h', g', e1, e2, e3, e4⟩ => ⟨v, r', ⟨bs, h'.toks, h'.nx⟩, g', e1, e2, e3.frame r hsub (fun i c e => .inr ⟨e, rfl⟩), h'.boxes, e4, rfl⟩

/-- A call that sees one variable. -/
theorem SCall.frame1 {f : FuncId} {args : List AV} {bs : List (Nat × List AV)} {tk : List (Nat × Tk)} {N id : Nat} {cs : List AV} {Q : AV → List AV → List (Nat × Tk) → Nat → Prop} (hl : lk bs id = some cs)
    (hc : SCall P f args ⟨[(id, cs)], tk, N⟩ fun r h' => ∃ c, lk h'.boxes id = some c ∧ Q r c h'.toks h'.nx) : SCall P f args ⟨bs, tk, N⟩ fun r h' => ∃ c, Q r c h'.toks h'.nx ∧ h'.boxes = up bs id c := by
  intro g w vals r hv
  have hsub : ∀ i c, lk [(id, cs)] i = some c → lk bs i = some c := fun i c e => by
    simp only [lk] at e
    split at e
    · rename_i h; cases e; subst h; exact hl
    · cases e
  have lkup : ∀ (l : List (Nat × List AV)) (c : List AV) (i : Nat), lk (up l id c) i = if id = i then (lk l i).map (fun _ => c) else lk l i := by
    intro l c i
    induction l with
    | nil => simp [up, lk]
    | cons p l ih =>
      obtain ⟨k, v⟩ := p
      simp only [up]
      by_cases h1 : k = id
      · subst h1
        simp only [if_true, lk]
        by_cases h2 : k = i <;> simp [h2]
      · simp only [if_neg h1, lk]
        by_cases h2 : k = i
        · subst h2; simp [Ne.symm h1]
        · simp only [if_neg h2, ih]
  refine (hc g w vals (r.lessB hsub) hv).mono fun e w' ⟨v, r', h', g', e1, e2, e3, c, e4, e5⟩ => ?_
  refine ⟨v, r', ⟨up bs id c, h'.toks, h'.nx⟩, g', e1, e2, e3.frame r hsub (fun i c' e => ?_), c, e5, rfl⟩
  rw [lkup] at e
  split at e
  · rename_i hi; subst hi; rw [hl] at e; cases e; exact .inl e4
  · rename_i hi; exact .inr ⟨e, by simp [lk, hi]⟩
end
end Go.Ab
