/- Loops, jumps, calls, contracts of functions that read and make but change nothing. Conditions: those that each theorem names. -/
import Derived.Test.YtfnmdmadaljjkaaAwp
import Derived.Deep.LoopGhost
set_option linter.unusedVariables false
set_option linter.unusedSimpArgs false
namespace Go.Ab

/-- To know less. -/
def St.le (σ σ' : St) : Prop := (∀ p ∈ σ'.slots, lk σ.slots p.1 = some p.2) ∧ (∀ p ∈ σ'.hp.boxes, lk σ.hp.boxes p.1 = some p.2) ∧ (∀ p ∈ σ'.hp.toks, lk σ.hp.toks p.1 = some p.2) ∧ σ'.hp.nx = σ.hp.nx ∧ σ'.nt = σ.nt

theorem lk_mem {α : Type} : ∀ {l : List (Nat × α)} {i : Nat} {v : α}, lk l i = some v → (i, v) ∈ l
  | (k, x) :: l, i, v, h => by
    simp only [lk] at h
    split at h
    · rename_i hk; cases h; subst hk; simp
    · exact List.mem_cons_of_mem _ (lk_mem h)

section
variable {P : Program} {g0 : Gh} {h0 : Hp} {w0 : World} {σ σ' : St} {g : Gh} {w : World} {a : Act}

theorem FRel.le (r : FRel g0 h0 w0 σ g w a) (h : St.le σ σ') : FRel g0 h0 w0 σ' g w a :=
  ⟨r.st.less h.2.2.2.1 (fun i c e => h.2.1 _ (lk_mem e)) (fun i c e => h.2.2.1 _ (lk_mem e)), fun s v e => r.slots s v (h.1 _ (lk_mem e)), r.nt.trans h.2.2.2.2.symm, r.defers⟩

/-- What stands in the one state stands, told otherwise, in the other. -/
def St.wk (σ σ' : St) : Prop := ∀ g0 h0 w0 g w a, FRel g0 h0 w0 σ g w a → ∃ g', FRel g0 h0 w0 σ' g' w a
theorem St.le.wk (h : St.le σ σ') : St.wk σ σ' := fun _ _ _ g _ _ r => ⟨g, r.le h⟩
theorem St.wk.refl (σ : St) : St.wk σ σ := fun _ _ _ g _ _ r => ⟨g, r⟩
theorem St.wk.trans {σ σ' σ'' : St} (h : St.wk σ σ') (k : St.wk σ' σ'') : St.wk σ σ'' := fun g0 h0 w0 g w a r => let ⟨g', r'⟩ := h g0 h0 w0 g w a r; k g0 h0 w0 g' w a r'

theorem aw_wk {c : Code} {Q : Exit → St → Prop} (h : St.wk σ σ') (k : Aw P c Q σ') : Aw P c Q σ := fun g0 h0 w0 g w a r => let ⟨g', r'⟩ := h g0 h0 w0 g w a r; k g0 h0 w0 g' w a r'
theorem awop_wk {o : Oper} {K : St → Prop} (h : St.wk σ σ') (k : AwOp P o K σ') : AwOp P o K σ := fun g0 h0 w0 g w a Q r => let ⟨g', r'⟩ := h g0 h0 w0 g w a r; k g0 h0 w0 g' w a Q r'

/-- A loop: what holds at its head, with a number that each round lowers. -/
theorem aw_loop {c : Code} {Q : Exit → St → Prop} (I : Nat → St → Prop) {σ' : St} (h : St.wk σ σ') (n : Nat) (hI : I n σ')
    (round : ∀ n σ, I n σ → awp P c (seqK (fun σ1 => ∃ σ2 m, St.wk σ1 σ2 ∧ m < n ∧ I m σ2) Q) σ) : Aw P (.loop c) Q σ := by
  intro g0 h0 w0 g w a r
  refine wp_loop_ghost (fun n a w => ∃ σ g, I n σ ∧ FRel g0 h0 w0 σ g w a) n (let ⟨g', r'⟩ := h g0 h0 w0 g w a r; ⟨σ', g', hI, r'⟩) (fun n a w ⟨σ, g, k1, k2⟩ => ?_)
  refine wp_mono (awp_sound c (round n σ k1) g0 h0 w0 g w a k2) fun e a' w' hh => ?_
  obtain ⟨σ1, g1, q1, q2⟩ := hh
  cases e with
  | normal =>
    obtain ⟨σ2, m, l1, l2, l3⟩ := q1
    obtain ⟨g2, q3⟩ := l1 g0 h0 w0 g1 w' a' q2
    exact ⟨m, l2, σ2, g2, l3, q3⟩
  | _ => exact ⟨σ1, g1, q1, q2⟩

/-- What holds where a scope is left, or a label is jumped to. -/
def jumpK (l : Nat) (J : St → Prop) (Q : Exit → St → Prop) : Exit → St → Prop
  | .goto i, σ => i = l ∧ ∃ σ', St.wk σ σ' ∧ J σ'
  | e, σ => Q e σ

theorem post_jump {l : Nat} {J : St → Prop} {Q : Exit → St → Prop} {J' : Act → World → Prop} (hJ : ∀ a w, (∃ σ g, J σ ∧ FRel g0 h0 w0 σ g w a) → J' a w) (e : Exit) (a : Act) (w : World) (h : Post g0 h0 w0 (jumpK l J Q) e a w) : Exit.jump l J' (Post g0 h0 w0 Q) e a w := by
  obtain ⟨σ1, g1, q1, q2⟩ := h
  cases e with
  | goto i =>
    obtain ⟨rfl, σ2, l1, l2⟩ := q1
    obtain ⟨g2, q3⟩ := l1 g0 h0 w0 g1 w a q2
    exact ⟨rfl, hJ _ _ ⟨σ2, g2, l2, q3⟩⟩
  | _ => exact ⟨σ1, g1, q1, q2⟩

/-- A scope with one label that is jumped to. -/
theorem aw_scope {c rest : Code} {Q : Exit → St → Prop} (l : Nat) (hf : findLabel c l = some rest) (J : Nat → St → Prop)
    (first : awp P c (jumpK l (fun σ => ∃ n, J n σ) Q) σ) (pass : ∀ n σ, J n σ → awp P rest (jumpK l (fun σ => ∃ m, m < n ∧ J m σ) Q) σ) : Aw P (.scope c) Q σ := by
  intro g0 h0 w0 g w a r
  let I : Nat → Act → World → Prop := fun n a w => ∃ σ g, J n σ ∧ FRel g0 h0 w0 σ g w a
  refine wp_scope_jumps l (fun a w => ∃ n, I n a w) (fun a w => leastOf (fun n => I n a w)) hf ?_ ?_
  · exact wp_mono (awp_sound c first g0 h0 w0 g w a r) (post_jump (fun a w ⟨σ, g, ⟨n, h1⟩, h2⟩ => ⟨n, σ, g, h1, h2⟩))
  · intro a w hI
    obtain ⟨σ1, g1, k1, k2⟩ := (leastOf_spec hI).1
    refine wp_mono (awp_sound rest (pass _ σ1 k1) g0 h0 w0 g1 w a k2) (post_jump (fun a' w' ⟨σ, g, ⟨m, h0, h1⟩, h2⟩ => ?_))
    have hI' : I m a' w' := ⟨σ, g, h1, h2⟩
    exact ⟨⟨m, hI'⟩, Nat.lt_of_le_of_lt ((leastOf_spec ⟨m, hI'⟩).2 m hI') h0⟩

/-- A scope without a jump. -/
def stayK (Q : Exit → St → Prop) : Exit → St → Prop
  | .goto _, _ => False
  | e, σ => Q e σ
theorem aw_scope_straight {c : Code} {Q : Exit → St → Prop} (h : awp P c (stayK Q) σ) : Aw P (.scope c) Q σ := by
  intro g0 h0 w0 g w a r
  refine wp_scope_straight (wp_mono (awp_sound c h g0 h0 w0 g w a r) fun e a' w' hh => ?_)
  obtain ⟨σ1, g1, q1, q2⟩ := hh
  cases e with
  | goto l => exact q1.elim
  | _ => exact ⟨σ1, g1, q1, q2⟩

/-! The same, told otherwise. -/
def Cv (g g' : Gh) (a b : AV) : Prop := ∀ v, Rep g v a → Rep g' v b
def CvL (g g' : Gh) (as bs : List AV) : Prop := ∀ vs, RepL g vs as → RepL g' vs bs
theorem cv_refl {g g' : Gh} (x : Ext g g') (a : AV) : Cv g g' a a := fun _ h => h.mono x
theorem cvL_refl {g g' : Gh} (x : Ext g g') (as : List AV) : CvL g g' as as := fun _ h => h.mono x
theorem cvL_nil {g g' : Gh} : CvL g g' [] [] := fun vs h => ⟨h.1, fun i c a _ e => by simp at e⟩
theorem cvL_cons {g g' : Gh} {a b : AV} {as bs : List AV} (h : Cv g g' a b) (k : CvL g g' as bs) : CvL g g' (a :: as) (b :: bs) := fun vs hv => by
  cases vs with
  | nil => exact absurd hv.1 (by simp)
  | cons v vs => exact .cons (h v hv.head) (k vs hv.tail)
theorem cv_agg {g g' : Gh} {as bs : List AV} (h : CvL g g' as bs) : Cv g g' (.agg as) (.agg bs) := fun v hv => by
  obtain ⟨cs, rfl, h1, h2⟩ := RepL.of_agg hv
  exact RepL.agg h2 (h _ h1)
theorem cv_full {g g' : Gh} (x : Ext g g') (xs : List (List AV)) (f : Bool) : Cv g g' (.vec xs f) (.vec xs false) := fun v hv => by
  have := hv.mono x
  cases this with
  | vecN => exact .vecN
  | vecE _ => exact .vecE (fun q => by cases q)
  | vec f h1 h2 h3 h4 h5 => exact .vec f h1 (fun q => by cases q) h3 h4 h5
/-- Rows against rows. -/
inductive CvR (g g' : Gh) : List (List AV) → List (List AV) → Prop
  | nil : CvR g g' [] []
  | cons {x y : List AV} {xs ys : List (List AV)} : CvL g g' x y → x.length = y.length → CvR g g' xs ys → CvR g g' (x :: xs) (y :: ys)
theorem CvR.length {g g' : Gh} {xs ys : List (List AV)} (h : CvR g g' xs ys) : xs.length = ys.length := by
  induction h with
  | nil => rfl
  | cons _ _ _ ih => simp [ih]
theorem CvR.get {g g' : Gh} {xs ys : List (List AV)} (h : CvR g g' xs ys) : ∀ (i : Nat) (y : List AV), ys[i]? = some y → ∃ x, xs[i]? = some x ∧ CvL g g' x y ∧ x.length = y.length := by
  induction h with
  | nil => intro i y e; simp at e
  | cons h1 h2 _ ih =>
    intro i y e
    cases i with
    | zero => simp at e; subst e; exact ⟨_, rfl, h1, h2⟩
    | succ i => simp at e; obtain ⟨x, e1, e2⟩ := ih i y e; exact ⟨x, by simpa using e1, e2⟩
theorem CvR.refl {g g' : Gh} (x : Ext g g') : ∀ (xs : List (List AV)), CvR g g' xs xs
  | [] => .nil
  | y :: ys => .cons (cvL_refl x y) rfl (CvR.refl x ys)
theorem cv_vec {g g' : Gh} (x : Ext g g') {xs ys : List (List AV)} {f : Bool} (h : CvR g g' xs ys) : Cv g g' (.vec xs f) (.vec ys f) := fun v hv => by
  cases hv with
  | vecN =>
    cases h
    exact .vecN
  | vecE hf =>
    cases h
    exact .vecE hf
  | @vec b off cap s _ _ F h1 h2 h3 h4 h5 =>
    rw [h.length]
    refine .vec (s := s) F (fun y hy => ?_) (fun q => by rw [← h.length]; exact h2 q) (by rw [← h.length]; exact h3) (fun i y j a e1 e2 => ?_) (fun i y j a e1 e2 => ?_)
    · obtain ⟨i, hi⟩ := List.getElem?_of_mem hy
      obtain ⟨x', q1, _, q3⟩ := h.get i y hi
      rw [← q3]; exact h1 x' (List.mem_of_getElem? q1)
    · obtain ⟨x', q1, q2, q3⟩ := h.get i y e1
      have hj : j < x'.length := by rw [q3]; exact (List.getElem?_eq_some_iff.1 e2).1
      exact x.mem _ _ _ (h4 i x' j x'[j] q1 (List.getElem?_eq_getElem hj))
    · obtain ⟨x', q1, q2, q3⟩ := h.get i y e1
      have hj : j < x'.length := by rw [q3]; exact (List.getElem?_eq_some_iff.1 e2).1
      have row : RepL g ((List.range x'.length).map (F i)) x' := ⟨by simp, fun k c a' f1 f2 => by
        have hk : k < x'.length := (List.getElem?_eq_some_iff.1 f2).1
        simp [List.getElem?_map, List.getElem?_range hk] at f1
        subst f1
        exact h5 i x' k a' q1 f2⟩
      exact (q2 _ row).2 j (F i j) a (by simp [List.getElem?_map, List.getElem?_range hj]) e2

structure TkCv (g : Gh) (k k' : Tk) : Prop where
  fz : k'.fz = k.fz
  s : k'.s = k.s
  xs : CvR g g k.xs k'.xs
theorem TkCv.refl (g : Gh) (k : Tk) : TkCv g k k := ⟨rfl, rfl, CvR.refl (.refl g) k.xs⟩
theorem CvR.snoc {g g' : Gh} {xs ys : List (List AV)} {x y : List AV} (h : CvR g g' xs ys) (k : CvL g g' x y) (l : x.length = y.length) : CvR g g' (xs ++ [x]) (ys ++ [y]) := by
  induction h with
  | nil => exact .cons k l .nil
  | cons h1 h2 _ ih => exact .cons h1 h2 ih

theorem FRel.conv {σ σ' : St} {g g' : Gh} {h' : Hp} (r : FRel g0 h0 w0 σ g w a) (s : Step1 g σ.hp w g' h' w) (hn : σ'.hp.nx = h'.nx) (ht : σ'.nt = σ.nt)
    (h1 : ∀ p ∈ σ'.slots, ∃ b, lk σ.slots p.1 = some b ∧ Cv g g' b p.2) (h2 : ∀ p ∈ σ'.hp.boxes, ∃ cs, lk h'.boxes p.1 = some cs ∧ CvL g' g' cs p.2) (h3 : ∀ p ∈ σ'.hp.toks, ∃ k, lk h'.toks p.1 = some k ∧ TkCv g' k p.2) : FRel g0 h0 w0 σ' g' w a := by
  have st := r.st.trans s
  have sb : ∀ i, (lk σ'.hp.boxes i).isSome = true → (lk h'.boxes i).isSome = true := fun i e => by
    obtain ⟨c, hc⟩ := Option.isSome_iff_exists.1 e
    obtain ⟨cs, k1, _⟩ := h2 _ (lk_mem hc)
    rw [k1]; rfl
  have tt : ∀ i c, lk σ'.hp.toks i = some c → ∃ k, lk h'.toks i = some k ∧ TkCv g' k c := fun i c e => h3 _ (lk_mem e)
  have stt : ∀ i, (lk σ'.hp.toks i).isSome = true → (lk h'.toks i).isSome = true := fun i e => by
    obtain ⟨c, hc⟩ := Option.isSome_iff_exists.1 e; obtain ⟨k, hk, _⟩ := tt i c hc; rw [hk]; rfl
  refine ⟨⟨⟨st.hp.nx.trans hn.symm, st.hp.mem, fun id cs e => ?_, fun t k e => ?_, fun i j b e1 e2 e3 e4 => st.hp.bxbx i j b e1 e2 (sb i e3) (sb j e4), fun i j b c n c' n' e1 e2 e3 e4 => st.hp.tktk i j b c n c' n' e1 e2 (stt i e3) (stt j e4),
    fun i j b c n e1 e2 e3 e4 => st.hp.bxtk i j b c n e1 e2 (sb i e3) (stt j e4), fun i e => st.hp.fresh i (hn ▸ e), st.hp.cch, st.hp.cel⟩, st.ext, st.keeps, fun b l => st.live b ?_, st.memo⟩, fun s' v e => ?_, r.nt.trans ht.symm, r.defers⟩
  · obtain ⟨cs0, k1, k2⟩ := h2 _ (lk_mem e)
    obtain ⟨b, vs, ty, e1, e2, e3, e4, e5⟩ := st.hp.box id cs0 k1
    exact ⟨b, vs, ty, e1, e2, k2 _ e3, e4, e5⟩
  · obtain ⟨k0, q1, q2, q3, q4⟩ := tt t k e
    have hl := q4.length
    obtain ⟨b, c, vs, ty, e1, e2, e3, e4, e5, e6, e7, e8, e9⟩ := st.hp.tok t k0 q1
    refine ⟨b, c, vs, ty, by rw [← hl]; exact e1, e2, by rw [q3]; exact e3, by rw [← hl]; exact e4, by rw [q2, ← hl]; exact e5, fun x hx => ?_, fun i x j a f1 f2 => ?_, e8, fun o ho => e9 o (by rw [← q2, ← q3]; exact ho)⟩
    · obtain ⟨i, hi⟩ := List.getElem?_of_mem hx
      obtain ⟨x0, p1, _, p3⟩ := q4.get i x hi
      rw [← p3, q3]; exact e6 x0 (List.mem_of_getElem? p1)
    · obtain ⟨x0, p1, p2, p3⟩ := q4.get i x f1
      have hj : j < x0.length := by rw [p3]; exact (List.getElem?_eq_some_iff.1 f2).1
      have row : RepL g' ((List.range x0.length).map fun j => vs.getD (i * k0.s + j) undef) x0 := ⟨by simp, fun k c a' g1 g2 => by
        have hk : k < x0.length := (List.getElem?_eq_some_iff.1 g2).1
        simp [List.getElem?_map, List.getElem?_range hk] at g1
        obtain ⟨v, m1, m2⟩ := e7 i x0 k a' p1 g2
        rw [m1] at g1; simp at g1
        subst g1; exact m2⟩
      obtain ⟨v, m1, m2⟩ := e7 i x0 j x0[j] p1 (List.getElem?_eq_getElem hj)
      refine ⟨v, by rw [q3]; exact m1, ?_⟩
      have := (p2 _ row).2 j v a (by simp [List.getElem?_map, List.getElem?_range hj, m1]) f2
      exact this
  · rcases l with ⟨id, cs, e1, e2⟩ | ⟨t, k, c, n, e1, e2⟩ | e1
    · obtain ⟨cs0, k1, _⟩ := h2 _ (lk_mem e1)
      exact .inl ⟨id, cs0, k1, e2⟩
    · obtain ⟨k0, q1, _⟩ := tt _ _ e1
      exact .inr (.inl ⟨t, k0, c, n, q1, e2⟩)
    · exact .inr (.inr e1)
  · obtain ⟨b, k1, k2⟩ := h1 _ (lk_mem e)
    obtain ⟨u, e1, e2⟩ := r.slots s' b k1
    exact ⟨u, e1, k2 u e2⟩

/-- The same, without a heap's help. -/
theorem St.wk_conv {σ σ' : St} (hn : σ'.hp.nx = σ.hp.nx) (ht : σ'.nt = σ.nt) (h1 : ∀ g g', Ext g g' → ∀ p ∈ σ'.slots, ∃ b, lk σ.slots p.1 = some b ∧ Cv g g' b p.2) (h2 : ∀ g g', Ext g g' → ∀ p ∈ σ'.hp.boxes, ∃ cs, lk σ.hp.boxes p.1 = some cs ∧ CvL g g' cs p.2)
    (h3 : ∀ g, ∀ p ∈ σ'.hp.toks, ∃ k, lk σ.hp.toks p.1 = some k ∧ TkCv g k p.2) : St.wk σ σ' := fun _ _ _ g _ _ r =>
  ⟨g, r.conv (Step1.refl r.st.hp) hn ht (h1 g g (.refl g)) (h2 g g (.refl g)) (h3 g)⟩

theorem Step1.freeze {g : Gh} {h : Hp} {w : World} (r : HRel g h w) {t : Nat} {k : Tk} (hk : lk h.toks t = some k) : ∃ g', Step1 g h w g' { h with toks := up h.toks t ⟨k.xs, k.xs.length, k.s⟩ } w ∧ Cv g g' (.own t k.xs.length) (.vec k.xs false) ∧ g'.tok = g.tok := by
  obtain ⟨g', r1, r2, r3, r4, r5, r6⟩ := r.freezeM hk
  refine ⟨g', ⟨r1, r2, .refl _ _, fun b l => .inl (Live.freeze hk r4 r5.1 r5.2 l), fun b o v e => ?_⟩, r3, r5.1⟩
  rcases r6 b o v e with q | ⟨c, n, q⟩
  · exact .inl q
  · exact .inr (.inl (.inr (.inl ⟨t, k, c, n, hk, q⟩)))

/-- An owned slice stays from now on. -/
theorem St.wk_freeze {σ σ' : St} {t : Nat} {k : Tk} (hk : lk σ.hp.toks t = some k) (hn : σ'.hp.nx = σ.hp.nx) (ht : σ'.nt = σ.nt)
    (h1 : ∀ g g', Ext g g' → Cv g g' (.own t k.xs.length) (.vec k.xs false) → ∀ p ∈ σ'.slots, ∃ b, lk σ.slots p.1 = some b ∧ Cv g g' b p.2)
    (h2 : ∀ g g', Ext g g' → Cv g g' (.own t k.xs.length) (.vec k.xs false) → ∀ p ∈ σ'.hp.boxes, ∃ cs, lk σ.hp.boxes p.1 = some cs ∧ CvL g g' cs p.2)
    (h3 : ∀ g, ∀ p ∈ σ'.hp.toks, ∃ k', lk (up σ.hp.toks t ⟨k.xs, k.xs.length, k.s⟩) p.1 = some k' ∧ TkCv g k' p.2) : St.wk σ σ' := by
  intro g0 h0 w0 g w a r
  obtain ⟨g', s, c, ht'⟩ := Step1.freeze r.st.hp hk
  -- in the new ghost an owned view of this length is that row, too
  have c' : Cv g' g' (.own t k.xs.length) (.vec k.xs false) := fun v hv => by
    obtain ⟨b, cp, vs, ty, q1, q2, q3, q4, q5, q6, q7, q8, q9⟩ := r.st.hp.tok t k hk
    refine c v ?_
    cases hv with
    | own p1 p2 =>
      refine .own (r.st.hp.tok_lt hk |> fun q => by rw [r.st.hp.nx]; exact q) (fun b' c1 m e => ?_)
      exact p2 b' c1 m (by rw [ht']; exact e)
  refine ⟨g', r.conv s hn ht (h1 g g' s.ext c) (fun p hp => ?_) (h3 g')⟩
  obtain ⟨cs, k1, k2⟩ := h2 g' g' (.refl g') c' p hp
  exact ⟨cs, k1, k2⟩

/-! Results. -/
def resOf (P : Program) (σ : St) : List ResultVar → Option (List AV)
  | [] => some []
  | .tmp t :: l => match lk σ.slots t, resOf P σ l with
    | some v, some vs => some (v :: vs)
    | _, _ => none
  | .cell t ty :: l => match lk σ.slots t, tyOf P ty, resOf P σ l with
    | some p, some ti, some vs => match rowOf σ.hp p with
      | some (cs, off) => match valAt ti cs off with
        | some v => some (v :: vs)
        | none => none
      | none => none
    | _, _, _ => none
def retV : List AV → AV
  | [a] => a
  | l => .tup l

def resK (x : Option (List AV)) (R : AV → Hp → Prop) (h : Hp) : Prop :=
  match x with
  | some vs => R (retV vs) h
  | none => False
theorem Xbq {vs : List AV} {R : AV → Hp → Prop} {h : Hp} : resK (some vs) R h = R (retV vs) h := rfl
theorem resK_elim {x : Option (List AV)} {R : AV → Hp → Prop} {h : Hp} (k : resK x R h) : ∃ vs, x = some vs ∧ R (retV vs) h := by
  cases x with
  | none => exact k.elim
  | some v => exact ⟨v, rfl, k⟩
def retK (P : Program) (rs : List ResultVar) (R : AV → Hp → Prop) : Exit → St → Prop
  | .normal, σ => resK (resOf P σ rs) R σ.hp
  | .ret, σ => resK (resOf P σ rs) R σ.hp
  | _, _ => False
theorem Xba {rs : List ResultVar} {R : AV → Hp → Prop} : retK P rs R .normal σ = resK (resOf P σ rs) R σ.hp := rfl
theorem Xbb {rs : List ResultVar} {R : AV → Hp → Prop} : retK P rs R .ret σ = resK (resOf P σ rs) R σ.hp := rfl
theorem Xau {l : Nat} {J : St → Prop} {Q : Exit → St → Prop} : jumpK l J Q .normal σ = Q .normal σ := rfl
theorem Xav {l : Nat} {J : St → Prop} {Q : Exit → St → Prop} : jumpK l J Q .ret σ = Q .ret σ := rfl
theorem Xaw {l i : Nat} {J : St → Prop} {Q : Exit → St → Prop} : jumpK l J Q (.exit i) σ = Q (.exit i) σ := rfl
theorem Xch {l : Nat} {J : St → Prop} {Q : Exit → St → Prop} : jumpK l J Q (.goto l) σ = ∃ σ', St.wk σ σ' ∧ J σ' := by simp [jumpK]
theorem Xax {Q : Exit → St → Prop} : stayK Q .normal σ = Q .normal σ := rfl
theorem Xay {Q : Exit → St → Prop} : stayK Q .ret σ = Q .ret σ := rfl
theorem Xaz {i : Nat} {Q : Exit → St → Prop} : stayK Q (.exit i) σ = Q (.exit i) σ := rfl

theorem res_sound (r : FRel g0 h0 w0 σ g w a) : ∀ {l : List ResultVar} {vs : List AV}, resOf P σ l = some vs →
    ∃ us, (l.mapM (m := Sem) fun
      | .tmp t => pure (a.tmps.getD t undef)
      | .cell b t => do loadVar t (← asAddr (a.tmps.getD b undef))).run P w = .ok us w ∧ RepL g us vs
  | [], vs, h => by cases h; exact ⟨[], rfl, .nil⟩
  | .tmp t :: l, vs, h => by
    unfold resOf at h
    split at h
    · rename_i v vs' h1 h2
      cases h
      obtain ⟨us, k1, k2⟩ := res_sound r h2
      obtain ⟨u, e1, e2⟩ := r.slots t v h1
      refine ⟨u :: us, ?_, .cons e2 k2⟩
      rw [List.mapM_cons, Sem.run_bind]
      simp only [Sem.run_pure, Result.andThen_ok, Sem.run_bind]
      rw [k1]
      simp [Array.getD_eq_getD_getElem?, e1]
    · cases h
  | .cell t ty :: l, vs, h => by
    unfold resOf at h
    split at h
    · rename_i p ti vs' h1 h2 h3
      obtain ⟨us, k1, k2⟩ := res_sound r h3
      obtain ⟨u, e1, e2⟩ := r.slots t p h1
      split at h
      · rename_i cs off hr
        split at h
        · rename_i v hv
          cases h
          obtain ⟨b, base, rs, rfl, f1, f2, f3⟩ := rowOf_sound r.st.hp e2 hr
          obtain ⟨x, q1, q2⟩ := run_loadVar_row' h2 f1 f2 f3 hv
          refine ⟨x :: us, ?_, .cons q2 k2⟩
          have hx : (asAddr (a.tmps.getD t undef)).run P w = .ok ⟨b, base + off, none⟩ w := by simp [Array.getD_eq_getD_getElem?, e1, asAddr]
          rw [List.mapM_cons, Sem.run_bind]
          simp only [Sem.run_bind, hx, Result.andThen_ok, q1]
          rw [k1]
          rfl
        · cases h
      · cases h
    · cases h

theorem results_sound (r : FRel g0 h0 w0 σ g w a) {fn : Func} {vs : List AV} (h : resOf P σ fn.results.toList = some vs) : ∃ u, (results fn a.tmps).run P w = .ok u w ∧ Rep g u (retV vs) := by
  obtain ⟨us, k1, k2⟩ := res_sound r h
  have hm := mapM_toList (P := P) (w := w) _ fn.results k1
  refine ⟨if h : us.toArray.size = 1 then us.toArray[0] else .tuple us.toArray, ?_, ?_⟩
  · unfold results
    rw [Sem.run_bind]
    exact congrArg (fun r : Result (Array Value) => r.andThen fun a w' => Sem.run P (pure (if h : a.size = 1 then a[0] else Value.tuple a)) w') hm
  · match us, vs, k2 with
    | [], [], _ => simpa [retV] using Rep.tup (g := g) (cs := #[]) (as := []) rfl (by simp)
    | [u], [v], k => simpa [retV] using k.head
    | u :: u' :: us, v :: v' :: vs, k =>
      simp only [List.size_toArray, List.length_cons, retV]
      rw [dif_neg (by omega)]
      exact .tup (by simpa using k.1) (fun i c b e1 e2 => k.2 i c b (by simpa using e1) e2)
    | [], v :: vs, k => exact absurd k.1 (by simp)
    | u :: us, [], k => exact absurd k.1 (by simp)
    | [u], v :: v' :: vs, k => exact absurd k.1 (by simp)
    | u :: u' :: us, [v], k => exact absurd k.1 (by simp)

/-- The slots at a function's entry. -/
def slotsOf : Nat → List AV → List (Nat × AV)
  | _, [] => []
  | n, a :: l => (n, a) :: slotsOf (n + 1) l
theorem lk_slotsOf : ∀ {l : List AV} {n s : Nat} {v : AV}, lk (slotsOf n l) s = some v → n ≤ s ∧ l[s - n]? = some v
  | [], _, _, _, h => by cases h
  | a :: l, n, s, v, h => by
    simp only [slotsOf, lk] at h
    split at h
    · rename_i hn; subst hn; cases h; simp
    · rename_i hn
      obtain ⟨h1, h2⟩ := lk_slotsOf h
      refine ⟨by omega, ?_⟩
      have : s - n = (s - (n + 1)) + 1 := by omega
      rw [this]; simpa using h2
def entry (args : List AV) (h : Hp) (n : Nat) : St := ⟨slotsOf 0 args, h, n⟩

theorem FRel.entry {h : Hp} {vals : Array Value} {args : List AV} (hr : HRel g h w) (hl : RepL g vals.toList args) (n : Nat) (hn : args.length ≤ n) :
    FRel g h w (entry args h n) g w { tmps := vals ++ Array.replicate (n - vals.size) undef, defers := [] } := by
  have hs : vals.size = args.length := by simpa using hl.1
  refine ⟨.refl hr, fun s v e => ?_, by simp [Ab.entry]; omega, rfl⟩
  obtain ⟨_, h2⟩ := lk_slotsOf e
  rw [Nat.sub_zero] at h2
  obtain ⟨u, f1, f2⟩ := hl.get h2
  have hlt : s < vals.size := by have := (List.getElem?_eq_some_iff.1 f1).1; simpa using this
  exact ⟨u, by simp only [Array.getElem?_append_left hlt]; simpa using f1, f2⟩

/-- THE CONTRACT OF A FUNCTION OUT OF ITS WALK. -/
theorem SCall_intro {f : FuncId} {fn : Func} {c : Code} {args : List AV} {h : Hp} {Q : AV → Hp → Prop} (hf : P.funcs[f]? = some fn) (hb : fn.body = some c) {n : Nat} (hnt : fn.ntmps = n) {rs : List ResultVar} (hrs : fn.results.toList = rs) (hn : args.length ≤ n)
    (hw : awp P c (retK P rs Q) (entry args h n)) : SCall P f args h Q := by
  subst hnt; subst hrs
  intro g w vals hr hl
  have hs : vals.size = args.length := by simpa using hl.1
  refine calls_of_wp hf hb (wp_mono (awp_sound c hw g h w g w _ (FRel.entry hr hl fn.ntmps hn)) fun e a' w' hh => ?_)
  obtain ⟨σ, g', q1, q2⟩ := hh
  have fin : resK (resOf P σ fn.results.toList) Q σ.hp → a'.defers = [] ∧ ∃ v, (results fn a'.tmps).run P w' = .ok v w' ∧ ∃ v' r h' g', Ending.returned v = .returned v' ∧ Rep g' v' r ∧ Step1 g h w g' h' w' ∧ Q r h' := fun hb => by
    obtain ⟨vs, k1, k2⟩ := resK_elim hb
    obtain ⟨u, e1, e2⟩ := results_sound q2 k1
    exact ⟨q2.defers, u, e1, u, _, _, g', rfl, e2, q2.st, k2⟩
  cases e with
  | normal => exact fin q1
  | ret => exact fin q1
  | exit id => exact q1.elim
  | goto l => exact q1.elim
  | panic ch => exact q1.elim
  | outgrown => exact q1.elim

theorem SCall.mono {f : FuncId} {args : List AV} {h : Hp} {Q Q' : AV → Hp → Prop} (hc : SCall P f args h Q) (hq : ∀ r h', Q r h' → Q' r h') : SCall P f args h Q' :=
  fun g w vals hr hl => (hc g w vals hr hl).mono fun _ _ ⟨v, r, h', g', e1, e2, e3, e4⟩ => ⟨v, r, h', g', e1, e2, e3, hq _ _ e4⟩
end

/-! Functions that only read and make. -/
def MemOk (m : Nat → Nat → Option Value) (w : World) : Prop := ∀ b o v, m b o = some v → w.cell? ⟨b, o, none⟩ = some v ∧ v.oneCell' = true
def memLe (m m' : Nat → Nat → Option Value) : Prop := ∀ b o v, m b o = some v → m' b o = some v
/-- What it stands for hangs on cells alone that are never written. -/
def Pure (a : AV) : Prop := ∀ g g' v, memLe g.mem g'.mem → Rep g v a → Rep g' v a

theorem Pure.lit (v : Value) : Pure (.lit v) := fun g g' u _ h => by cases h with | lit h => exact .lit h
theorem Pure.agg {cs : List AV} (h : ∀ c ∈ cs, Pure c) : Pure (.agg cs) := fun g g' u hm hr => by
  cases hr with
  | agg h0 h1 h2 => exact .agg h0 h1 fun i c a e1 e2 => h a (List.mem_of_getElem? e2) g g' c hm (h2 i c a e1 e2)
theorem Pure.tup {cs : List AV} (h : ∀ c ∈ cs, Pure c) : Pure (.tup cs) := fun g g' u hm hr => by
  cases hr with
  | tup h1 h2 => exact .tup h1 fun i c a e1 e2 => h a (List.mem_of_getElem? e2) g g' c hm (h2 i c a e1 e2)
theorem Pure.vec {xs : List (List AV)} {full : Bool} (h : ∀ x ∈ xs, ∀ c ∈ x, Pure c) : Pure (.vec xs full) := fun g g' u hm hr => by
  cases hr with
  | vecN => exact .vecN
  | vecE h => exact .vecE h
  | vec f h1 h2 h3 h4 h5 => exact .vec f h1 h2 h3 (fun i x j a e1 e2 => hm _ _ _ (h4 i x j a e1 e2)) fun i x j a e1 e2 => h x (List.mem_of_getElem? e1) a (List.mem_of_getElem? e2) g g' _ hm (h5 i x j a e1 e2)
theorem Pure.pp {cs : List AV} {off : Nat} (h : ∀ c ∈ cs, Pure c) : Pure (.pp cs off) := fun g g' u hm hr => by
  cases hr with
  | pp f h1 h2 => exact .pp f (fun j a e => hm _ _ _ (h1 j a e)) fun j a e => h a (List.mem_of_getElem? e) g g' _ hm (h2 j a e)
theorem Pure.fn {f : Fn} {as bs : List AV} (h : ∀ c ∈ as, Pure c) (k : ∀ c ∈ bs, Pure c) : Pure (.fn f as bs) := fun g g' u hm hr => by
  cases hr with
  | fn h1 h2 h3 h4 => exact .fn h1 (fun i c a e1 e2 => h a (List.mem_of_getElem? e2) g g' c hm (h2 i c a e1 e2)) h3 fun i c a e1 e2 => k a (List.mem_of_getElem? e2) g g' c hm (h4 i c a e1 e2)
theorem Pure.ifc {t : TypeId} {a : AV} (h : Pure a) : Pure (.ifc t a) := fun g g' u hm hr => by
  cases hr with
  | ifc h1 => exact .ifc (h g g' _ hm h1)

def PCall (P : Program) (f : FuncId) (args : List AV) (r : AV) : Prop :=
  ∀ m w (vals : Array Value), MemOk m w → RepL (gm m) vals.toList args → Calls P f vals w fun e w' => ∃ v m', e = .returned v ∧ Rep (gm m') v r ∧ MemOk m' w' ∧ Keeps (fun _ => False) w w' ∧ memLe m m' ∧ ∀ b o v, m' b o = some v → m b o = some v ∨ w.heap.size ≤ b

section
variable {P : Program}

theorem HRel.none {m : Nat → Nat → Option Value} {w : World} (h : MemOk m w) : HRel (gm m) .none w :=
  ⟨rfl, h, fun _ _ e => (nomatch e), fun _ _ e => (nomatch e), fun _ _ _ e => (nomatch e), fun _ _ _ _ _ _ _ e => (nomatch e), fun _ _ _ _ _ e => (nomatch e), fun _ _ => ⟨rfl, rfl⟩, fun _ _ e => (nomatch e), fun _ e => (nomatch e)⟩

theorem HRel.memOk {g : Gh} {h : Hp} {w : World} (r : HRel g h w) : MemOk g.mem w := r.mem

/-- The frame: a heap is not touched by a function that only reads and makes. -/
theorem HRel.frame {g : Gh} {h : Hp} {w w' : World} (r : HRel g h w) {m : Nat → Nat → Option Value} (hm : MemOk m w') (hk : Keeps (fun _ => False) w w') (h1 : memLe g.mem m) (h2 : ∀ b o v, m b o = some v → g.mem b o = some v ∨ w.heap.size ≤ b) :
    Step1 g h w { g with mem := m } h w' := by
  have hx : Ext g { g with mem := m } := ⟨Nat.le_refl _, h1, fun _ _ => rfl, fun _ _ => tokMono.refl _, fun _ _ h => h⟩
  have blk : ∀ b x, w.heap[b]? = some x → w'.heap[b]? = some x := fun b x e => (hk.block b (block_lt e) (fun q => q)).trans e
  have none : ∀ b o, b < w.heap.size → g.mem b o = Option.none → m b o = Option.none := fun b o hb e => by
    cases hv : m b o with
    | none => rfl
    | some v =>
      rcases h2 b o v hv with q | q
      · rw [e] at q; cases q
      · omega
  refine ⟨⟨r.nx, hm, fun id cs e => ?_, fun t k e => ?_, r.bxbx, r.tktk, r.bxtk, r.fresh, r.cchUp hx rfl (fun b es k e => blk b _ e), r.celUp rfl (fun b vs e q => ⟨vs, e, blk b _ q⟩)⟩, hx, ⟨hk.os, hk.tape, hk.output, hk.drawn, hk.size, fun b hb _ => hk.block b hb (fun q => q)⟩, fun b l => .inl l, fun b o v e => (h2 b o v e).imp id .inr⟩
  · obtain ⟨b, vs, ty, e1, e2, e3, e4, e5⟩ := r.box id cs e
    exact ⟨b, vs, ty, e1, blk _ _ e2, e3.mono hx, e4, fun o => none b o (block_lt e2) (e5 o)⟩
  · obtain ⟨b, c, vs, ty, e1, e2, e3, e4, e5, e6, e7, e8, e9⟩ := r.tok t k e
    exact ⟨b, c, vs, ty, e1, blk _ _ e2, e3, e4, e5, e6, (Lies.mono hx ⟨e6, e7⟩).2, e8, fun o ho => none b o (block_lt e2) (e9 o ho)⟩

theorem SCall_pure {f : FuncId} {args : List AV} {r : AV} (h : PCall P f args r) (ha : ∀ a ∈ args, Pure a) (hr : Pure r) (hp : Hp) : SCall P f args hp (fun r' h' => r' = r ∧ h' = hp) := by
  intro g w vals rel hl
  have hl' : RepL (gm g.mem) vals.toList args := ⟨hl.1, fun i c a e1 e2 => ha a (List.mem_of_getElem? e2) g (gm g.mem) c (fun _ _ _ e => e) (hl.2 i c a e1 e2)⟩
  refine (h g.mem w vals rel.mem hl').mono fun e w' hh => ?_
  obtain ⟨v, m, e1, e2, e3, e4, e5, e6⟩ := hh
  exact ⟨v, r, hp, { g with mem := m }, e1, hr (gm m) { g with mem := m } v (fun _ _ _ e => e) e2, rel.frame e3 e4 e5 e6, rfl, rfl⟩

/-- A call of such a function. -/
def Callable (P : Program) (f : FuncId) : Prop := ∃ fn, P.funcs[f]? = some fn ∧ fn.body.isNone = false ∧ (fn.name == "runtime.NumGoroutine") = false
theorem CallK_pure {f : FuncId} {args : List AV} {r : AV} {σ : St} {d : Option Tmp} {K : St → Prop} (hc : Callable P f) (h : PCall P f args r) (ha : ∀ a ∈ args, Pure a) (hr : Pure r) (hk : K (σ.put d r)) : CallK P f args σ d K :=
  ⟨hc, (SCall_pure h ha hr σ.hp).mono fun r' h' ⟨e1, e2⟩ => by subst e1; subst e2; exact hk⟩

/-- What a result becomes when its owner has gone. -/
def Expo (h : Hp) (r' r : AV) : Prop :=
  ∀ g w v, HRel g h w → Rep g v r' → ∃ m, memLe g.mem m ∧ MemOk m w ∧ (∀ b o v, m b o = some v → g.mem b o = some v ∨ Live g h b) ∧ Rep (gm m) v r

theorem expo_pure {h : Hp} {r : AV} (hr : Pure r) : Expo h r r := fun g w v rel hv => ⟨g.mem, fun _ _ _ e => e, rel.mem, fun _ _ _ e => .inl e, hr g _ v (fun _ _ _ e => e) hv⟩

theorem expo_own {h : Hp} {t n : Nat} {k : Tk} (hk : lk h.toks t = some k) (hn : n = k.xs.length) (hp : ∀ x ∈ k.xs, ∀ c ∈ x, Pure c) : Expo h (.own t n) (.vec k.xs false) := by
  intro g w v rel hv
  subst hn
  obtain ⟨b, c, vs, ty, q1, q2, q3, q4, q5, q6, q7, q8, q9⟩ := rel.tok t k hk
  obtain ⟨g', r1, r2, r3, r4, r5⟩ := rel.freeze' hk q1 q2 q3
  exact ⟨g'.mem, r2, r1, fun b' o v' e => (r3 b' o v' e).imp id fun q => .inr (.inl ⟨t, k, c, _, hk, q ▸ q1⟩), (Pure.vec hp) g' _ v (fun _ _ _ e => e) (r4 v hv)⟩

/-- Rows of results. -/
def ExpoL (h : Hp) (rs' rs : List AV) : Prop :=
  ∀ g w vs, HRel g h w → RepL g vs rs' → ∃ m, memLe g.mem m ∧ MemOk m w ∧ (∀ b o v, m b o = some v → g.mem b o = some v ∨ Live g h b) ∧ RepL (gm m) vs rs
theorem expoL_nil {h : Hp} : ExpoL h [] [] := fun g w vs rel hv => ⟨g.mem, fun _ _ _ e => e, rel.mem, fun _ _ _ e => .inl e, hv.1, fun i c a e1 e2 => by simp at e2⟩
theorem expoL_cons {h : Hp} {r' r : AV} {rs' rs : List AV} (k : Expo h r' r) (l : ExpoL h rs' rs) : ExpoL h (r' :: rs') (r :: rs) := by
  intro g w vs rel hv
  cases vs with
  | nil => exact absurd hv.1 (by simp)
  | cons v vs =>
    obtain ⟨m1, a1, a2, a3, a4⟩ := k g w v rel hv.head
    obtain ⟨m2, b1, b2, b3, b4⟩ := l g w vs rel hv.tail
    have x1 : Ext (gm m1) (gm fun b o => (m1 b o).or (m2 b o)) := ⟨Nat.le_refl _, fun b o v e => by
      have e' : m1 b o = some v := e
      simp [gm, e'], fun _ _ => rfl, fun _ _ => tokMono.refl _, fun _ _ h => h⟩
    have x2 : Ext (gm m2) (gm fun b o => (m1 b o).or (m2 b o)) := ⟨Nat.le_refl _, fun b o v e => by
      have e' : m2 b o = some v := e
      cases q : m1 b o with
      | none => simp [gm, q, e']
      | some u =>
        have h1 := (a2 b o u q).1
        have h2 := (b2 b o v e').1
        rw [h1] at h2; cases h2
        simp [gm, q], fun _ _ => rfl, fun _ _ => tokMono.refl _, fun _ _ h => h⟩
    have split : ∀ b o v, (m1 b o).or (m2 b o) = some v → m1 b o = some v ∨ m2 b o = some v := fun b o v e => by
      cases q : m1 b o with
      | none => rw [q] at e; exact .inr (by simpa using e)
      | some u => rw [q] at e; exact .inl (by simpa using e)
    exact ⟨fun b o => (m1 b o).or (m2 b o), fun b o v e => by simp [a1 b o v e], fun b o v e => (split b o v e).elim (a2 b o v) (b2 b o v), fun b o v e => (split b o v e).elim (a3 b o v) (b3 b o v), .cons (a4.mono x1) (b4.mono x2)⟩
theorem expo_tup {h : Hp} {rs' rs : List AV} (k : ExpoL h rs' rs) : Expo h (.tup rs') (.tup rs) := by
  intro g w v rel hv
  cases hv with
  | tup h1 h2 =>
    obtain ⟨m, a1, a2, a3, a4⟩ := k g w _ rel ⟨h1, h2⟩
    exact ⟨m, a1, a2, a3, .tup a4.1 a4.2⟩
theorem expo_agg {h : Hp} {rs' rs : List AV} (k : ExpoL h rs' rs) : Expo h (.agg rs') (.agg rs) := by
  intro g w v rel hv
  cases hv with
  | agg h0 h1 h2 =>
    obtain ⟨m, a1, a2, a3, a4⟩ := k g w _ rel ⟨h1, h2⟩
    exact ⟨m, a1, a2, a3, .agg h0 a4.1 a4.2⟩

theorem PCall_of_SCall {f : FuncId} {args : List AV} {r : AV} (h : SCall P f args .none fun r' h' => Expo h' r' r) : PCall P f args r := by
  intro m w vals hm hl
  refine (h (gm m) w vals (.none hm) hl).mono fun e w' hh => ?_
  obtain ⟨v, r', h', g', e1, e2, e3, e4⟩ := hh
  obtain ⟨m', a1, a2, a3, a4⟩ := e4 g' w' v e3.hp e2
  have live0 : ∀ b, Live (gm m) .none b → False := fun b l => by
    rcases l with ⟨_, _, q, _⟩ | ⟨_, _, _, _, q, _⟩ | ⟨_, q⟩ <;> cases q
  refine ⟨v, m', e1, a4, a2, ⟨e3.keeps.os, e3.keeps.tape, e3.keeps.output, e3.keeps.drawn, e3.keeps.size, fun b hb _ => e3.keeps.block b hb (live0 b)⟩, fun b o v e => a1 b o v (e3.ext.mem b o v e), fun b o v e => ?_⟩
  rcases a3 b o v e with q | q
  · rcases e3.memo b o v q with q | q | q
    · exact .inl q
    · exact (live0 b q).elim
    · exact .inr q
  · rcases e3.live b q with q | q
    · exact (live0 b q).elim
    · exact .inr q

/-- THE CONTRACT OF A FUNCTION THAT ONLY READS AND MAKES. -/
theorem PCall_intro {f : FuncId} {fn : Func} {c : Code} {args : List AV} {r : AV} (hf : P.funcs[f]? = some fn) (hb : fn.body = some c) {n : Nat} (hnt : fn.ntmps = n) {rs : List ResultVar} (hrs : fn.results.toList = rs) (hn : args.length ≤ n)
    (hw : awp P c (retK P rs fun r' h' => Expo h' r' r) (entry args .none n)) : PCall P f args r := PCall_of_SCall (SCall_intro hf hb hnt hrs hn hw)
end
end Go.Ab
