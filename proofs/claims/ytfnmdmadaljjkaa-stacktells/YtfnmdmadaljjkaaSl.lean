/- The plain law: a tree of stacks and a list of stacks that tell the same. Conditions: those that each theorem names. The plain law: what a set of stacks tells, told of the list. Conditions: those that each theorem names. Contracts: rows of frames and of stacks compared; what the document's bundle has, whether two of its are the same. Conditions: those that each theorem names. Contracts: rows of stacks compared; the tops of the document's bundle. Conditions: those that each theorem names. Contract: what every set of stacks tells. Conditions: the list asked for is one of a machine's. -/
import Derived.Test.YtfnmdmadaljjkaaXzz
import Derived.Test.YtfnmdmadaljjkaaSj
import Derived.Test.YtfnmdmadaljjkaaSe
import Derived.Test.YtfnmdmadaljjkaaSh
section
namespace Go.Proofs.Ytfnmdmadaljjkaa
open Go.Ab
set_option linter.unusedSimpArgs false
set_option linter.unusedVariables false
set_option maxRecDepth 20000

/-- Whether a path from the top is one of the set's. -/
def inO (o : Option Tr) (p : Sk) : Bool := bareO (hasO o p)
theorem inO_nil (o : Option Tr) : inO o [] = bareO o := rfl
theorem inO_cons (o : Option Tr) (f : Int × Int) (p : Sk) : inO o (f :: p) = inO (belowO f.1 f.2 o) p := rfl
theorem inO_none : ∀ (p : Sk), inO none p = false
  | [] => rfl
  | f :: p => inO_none p
theorem bare_comb (a b : Option Tr) : bareO (comb a b) = (bareO a || bareO b) := by
  cases a with
  | none => simp [comb, bareO]
  | some x =>
    cases b with
    | none => simp [comb, bareO]
    | some y =>
      obtain ⟨b1, ws⟩ := x; obtain ⟨b2, vs⟩ := y
      simp only [comb, joinTr_mk, bareO, Tr.bare]
theorem below_comb {a b : Option Tr} (ha : WfO a) (hb : WfO b) (s l : Int) : belowO s l (comb a b) = comb (belowO s l a) (belowO s l b) := by
  cases a with
  | none => rfl
  | some x =>
    cases b with
    | none => simp only [comb]; exact (comb_none _).symm
    | some y =>
      obtain ⟨b1, ws⟩ := x; obtain ⟨b2, vs⟩ := y
      simp only [comb, joinTr_mk]
      exact (join_srt (ha _ rfl).srt (hb _ rfl).srt).2.2 s l
theorem inO_comb : ∀ (p : Sk) {a b : Option Tr}, WfO a → WfO b → inO (comb a b) p = (inO a p || inO b p)
  | [], a, b, ha, hb => bare_comb a b
  | f :: p, a, b, ha, hb => by
    rw [inO_cons, inO_cons, inO_cons, below_comb ha hb]
    exact inO_comb p ha.below hb.below
theorem inO_push_nil (s l : Int) (a : Option Tr) : inO (pushO s l a) [] = false := by cases a <;> rfl
theorem inO_push (s l : Int) (a : Option Tr) (f : Int × Int) (p : Sk) : inO (pushO s l a) (f :: p) = (decide (f = (s, l)) && inO a p) := by
  cases a with
  | none => rw [show pushO s l none = none from rfl, inO_none, inO_none, Bool.and_false]
  | some t =>
    rw [inO_cons]
    show inO (findW f.1 f.2 [.mk s l t]) p = _
    have hf : findW f.1 f.2 [.mk s l t] = if s = f.1 ∧ l = f.2 then some t else none := rfl
    rw [hf]
    by_cases h : f = (s, l)
    · subst h; simp
    · have h' : ¬ (s = f.1 ∧ l = f.2) := fun q => h (by obtain ⟨a, b⟩ := f; simp only [Prod.mk.injEq]; exact ⟨q.1.symm, q.2.symm⟩)
      rw [if_neg h', inO_none]
      simp [h]
theorem inO_below (s l : Int) (a : Option Tr) (p : Sk) : inO (belowO s l a) p = inO a ((s, l) :: p) := rfl
theorem inO_empty (p : Sk) : inO emptyO p = decide (p = []) := by
  cases p with
  | nil => rfl
  | cons f p => rw [inO_cons]; exact (inO_none p).trans (by simp)
theorem ofO_snoc (l : Sk) (f : Int × Int) : ofO (l ++ [f]) = pushO f.1 f.2 (ofO l) := by unfold ofO; rw [List.foldl_append]; rfl
theorem inO_of : ∀ (n : Nat) (l p : Sk), l.length = n → inO (ofO l) p = decide (p = l.reverse)
  | 0, l, p, h => by
    obtain rfl := List.eq_nil_of_length_eq_zero h
    exact inO_empty p
  | n + 1, l, p, h => by
    rcases List.eq_nil_or_concat l with rfl | ⟨m, f, rfl⟩
    · simp at h
    rw [List.concat_eq_append] at h ⊢
    rw [ofO_snoc, List.reverse_append]
    cases p with
    | nil => rw [inO_push_nil]; simp
    | cons g p =>
      rw [inO_push, inO_of n m p (by simpa using h)]
      obtain ⟨a, b⟩ := f
      by_cases h1 : g = (a, b)
      · subst h1; simp
      · simp [h1]

theorem stkWs_iff {top s : Sk} : ∀ {ws : List Wy}, s ∈ stkWs ws top ↔ ∃ w ∈ ws, s ∈ stkT w.t (top ++ [(w.s, w.l)])
  | [] => by simp [stkWs]
  | w :: ws => by
    rw [stkWs, stkW_t, List.mem_append, stkWs_iff (ws := ws)]
    constructor
    · rintro (h | ⟨v, h1, h2⟩)
      · exact ⟨w, by simp, h⟩
      · exact ⟨v, by simp [h1], h2⟩
    · rintro ⟨v, h1, h2⟩
      rcases List.mem_cons.1 h1 with rfl | h1
      · exact .inl h2
      · exact .inr ⟨v, h1, h2⟩
theorem stk_in : ∀ (t : Tr) (top s : Sk), Wf t → (s ∈ stkT t top ↔ ∃ p, s = (top ++ p).reverse ∧ inO (some t) p = true)
  | .mk b ws, top, s, h => by
    have ih : ∀ w ∈ ws, ∀ top s, s ∈ stkT w.t top ↔ ∃ p, s = (top ++ p).reverse ∧ inO (some w.t) p = true := fun w hw top s => by
      have k := szT_kid (b := b) hw
      exact stk_in w.t top s (h.kid w hw)
    rw [stkT, List.mem_append, stkWs_iff]
    constructor
    · rintro (q | ⟨w, hw, q⟩)
      · cases b with
        | false => simp at q
        | true =>
          simp only [if_true, List.mem_singleton] at q
          exact ⟨[], by rw [q, List.append_nil], rfl⟩
      · obtain ⟨p, e1, e2⟩ := (ih w hw _ _).1 q
        refine ⟨(w.s, w.l) :: p, by rw [e1]; simp, ?_⟩
        rw [inO_cons]
        show inO (findW w.s w.l ws) p = true
        rw [findW_of_mem h.srt hw]
        exact e2
    · rintro ⟨p, e1, e2⟩
      cases p with
      | nil =>
        have : b = true := e2
        subst this
        exact .inl (by simp [e1])
      | cons f p =>
        rw [inO_cons] at e2
        have e2 : inO (findW f.1 f.2 ws) p = true := e2
        cases hf : findW f.1 f.2 ws with
        | none => rw [hf, inO_none] at e2; cases e2
        | some u =>
          obtain ⟨w, hw, q1, q2, q3⟩ := findW_mem hf
          refine .inr ⟨w, hw, (ih w hw _ _).2 ⟨p, ?_, by rw [q3]; rw [hf] at e2; exact e2⟩⟩
          rw [e1, q1, q2]; simp
termination_by t => szT t
decreasing_by exact k
theorem stkO_in {o : Option Tr} (h : WfO o) (s : Sk) : s ∈ stkO o [] ↔ inO o s.reverse = true := by
  cases o with
  | none => rw [inO_none]; simp [stkO]
  | some t =>
    show s ∈ stkT t [] ↔ _
    rw [stk_in t [] s (h t rfl)]
    constructor
    · rintro ⟨p, e1, e2⟩; rw [e1]; simpa using e2
    · intro q; exact ⟨s.reverse, by simp, q⟩
theorem stk_nodup : ∀ (t : Tr) (top : Sk), Wf t → (stkT t top).Nodup
  | .mk b ws, top, h => by
    have ih : ∀ w ∈ ws, ∀ top, (stkT w.t top).Nodup := fun w hw top => by
      have k := szT_kid (b := b) hw
      exact stk_nodup w.t top (h.kid w hw)
    have kid := h.kid
    have srt := h.srt
    have main : (stkWs ws top).Nodup := by
      clear h
      induction ws with
      | nil => simp [stkWs]
      | cons w ws ihw =>
        rw [stkWs, stkW_t, List.nodup_append]
        refine ⟨ih w (by simp) _, ihw (fun v hv => ih v (by simp [hv])) (fun v hv => kid v (by simp [hv])) srt.2, fun s hs s' hs' e => ?_⟩
        subst e
        obtain ⟨v, hv, hs'⟩ := stkWs_iff.1 hs'
        obtain ⟨p, e1, _⟩ := (stk_in w.t _ _ (kid w (by simp))).1 hs
        obtain ⟨q, e2, _⟩ := (stk_in v.t _ _ (kid v (by simp [hv]))).1 hs'
        have := List.reverse_inj.1 (e1.symm.trans e2)
        simp only [List.append_assoc, List.append_cancel_left_eq, List.cons_append, List.nil_append, List.cons.injEq, Prod.mk.injEq] at this
        have lt := srt.1 v hv
        unfold ltW at lt
        omega
    rw [stkT, List.nodup_append]
    refine ⟨by cases b <;> simp, main, fun s hs s' hs' e => ?_⟩
    subst e
    cases b with
    | false => simp at hs
    | true =>
      simp only [if_true, List.mem_singleton] at hs
      obtain ⟨v, hv, hs'⟩ := stkWs_iff.1 hs'
      obtain ⟨q, e2, _⟩ := (stk_in v.t _ _ (kid v hv)).1 hs'
      have := congrArg List.length (hs.symm.trans e2)
      simp at this
      omega
termination_by t => szT t
decreasing_by exact k

/-- The list tells the tree. -/
structure Rel (p : Pr) : Prop where
  srt : p.2.Pairwise (fun a b => lessL a b < 0)
  mem : ∀ s, s ∈ p.2 ↔ inO p.1 s.reverse = true
theorem withL_iff {s x : Sk} : ∀ {L : List Sk}, x ∈ withL s L ↔ x = s ∨ x ∈ L
  | [] => by simp [withL]
  | y :: L => by
    simp only [withL]
    split
    · simp
    · split
      · rename_i h1 h2
        have e : s = y := lessL_eq.1 (by omega)
        subst e
        simp
      · rw [List.mem_cons, withL_iff (L := L), List.mem_cons]
        constructor
        · rintro (h | h | h) <;> simp [h]
        · rintro (h | h | h) <;> simp [h]
theorem withL_srt {s : Sk} : ∀ {L : List Sk}, L.Pairwise (fun a b => lessL a b < 0) → (withL s L).Pairwise (fun a b => lessL a b < 0)
  | [], _ => by simp [withL]
  | y :: L, h => by
    rw [List.pairwise_cons] at h
    simp only [withL]
    split
    · rename_i h1
      rw [List.pairwise_cons]
      refine ⟨fun z hz => ?_, List.pairwise_cons.2 h⟩
      rcases List.mem_cons.1 hz with rfl | hz
      · exact h1
      · exact lessL_trans h1 (h.1 z hz)
    · split
      · exact List.pairwise_cons.2 h
      · rename_i h1 h2
        rw [List.pairwise_cons]
        refine ⟨fun z hz => ?_, withL_srt h.2⟩
        rcases withL_iff.1 hz with rfl | hz
        · exact lessL_gt.1 (by omega)
        · exact h.1 z hz
theorem fold_with {h : Sk → Sk} : ∀ {L A : List Sk}, A.Pairwise (fun a b => lessL a b < 0) → (L.foldl (fun out x => withL (h x) out) A).Pairwise (fun a b => lessL a b < 0) ∧ ∀ y, y ∈ L.foldl (fun out x => withL (h x) out) A ↔ y ∈ A ∨ ∃ x ∈ L, y = h x
  | [], A, hA => ⟨hA, fun y => by simp⟩
  | x :: L, A, hA => by
    obtain ⟨h1, h2⟩ := fold_with (h := h) (L := L) (withL_srt (s := h x) hA)
    refine ⟨h1, fun y => ?_⟩
    rw [List.foldl_cons, h2, withL_iff]
    simp only [List.mem_cons, exists_eq_or_imp]
    constructor
    · rintro ((q | q) | q)
      · exact .inr (.inl q)
      · exact .inl q
      · exact .inr (.inr q)
    · rintro (q | q | q)
      · exact .inl (.inr q)
      · exact .inl (.inl q)
      · exact .inr q
theorem fold_bel {f : Int × Int} : ∀ {L A : List Sk}, A.Pairwise (fun a b => lessL a b < 0) → (L.foldl (fun out x => belS f x out) A).Pairwise (fun a b => lessL a b < 0) ∧ ∀ y, y ∈ L.foldl (fun out x => belS f x out) A ↔ y ∈ A ∨ y ++ [f] ∈ L
  | [], A, hA => ⟨hA, fun y => by simp⟩
  | x :: L, A, hA => by
    have hb : (belS f x A).Pairwise (fun a b => lessL a b < 0) := by unfold belS; split; exact withL_srt hA; exact hA
    obtain ⟨h1, h2⟩ := fold_bel (f := f) (L := L) hb
    refine ⟨h1, fun y => ?_⟩
    rw [List.foldl_cons, h2, List.mem_cons]
    unfold belS
    by_cases hx : x.getLast? = some f
    · rw [if_pos hx, withL_iff]
      obtain ⟨m, rfl⟩ : ∃ m, x = m ++ [f] := by
        rcases List.eq_nil_or_concat x with rfl | ⟨m, g, rfl⟩
        · simp at hx
        · rw [List.concat_eq_append] at hx ⊢
          simp at hx
          exact ⟨m, by rw [hx]⟩
      simp only [List.dropLast_concat, List.append_cancel_right_eq]
      constructor
      · rintro ((q | q) | q)
        · exact .inr (.inl q)
        · exact .inl q
        · exact .inr (.inr q)
      · rintro (q | q | q)
        · exact .inl (.inr q)
        · exact .inl (.inl q)
        · exact .inr q
    · rw [if_neg hx]
      have : ¬ y ++ [f] = x := fun e => hx (by rw [← e]; simp)
      simp [this]
theorem rel_none : Rel (none, []) := ⟨by simp, fun s => by rw [inO_none]; simp⟩
theorem rel_empty : Rel (emptyO, [[]]) := ⟨by simp, fun s => by rw [inO_empty]; simp⟩
theorem rel_of (l : Sk) : Rel (ofO l, [l]) := ⟨by simp, fun s => by
  rw [inO_of _ l _ rfl]
  simp only [List.mem_singleton, decide_eq_true_eq, List.reverse_inj]⟩
theorem rel_push {p : Pr} (h : Rel p) (f : Int × Int) : Rel (pushO f.1 f.2 p.1, pushL f p.2) := by
  obtain ⟨q1, q2⟩ := fold_with (h := fun x => x ++ [f]) (L := p.2) (A := []) List.Pairwise.nil
  refine ⟨q1, fun s => ?_⟩
  show s ∈ p.2.foldl _ [] ↔ _
  rw [q2]
  rcases List.eq_nil_or_concat s with rfl | ⟨m, g, rfl⟩
  · rw [List.reverse_nil, inO_push_nil]; simp
  · rw [List.concat_eq_append, List.reverse_append]
    show _ ↔ inO (pushO f.1 f.2 p.1) (g :: m.reverse) = true
    rw [inO_push, Bool.and_eq_true, decide_eq_true_eq, ← h.mem]
    constructor
    · rintro (q | ⟨x, hx, e⟩)
      · cases q
      · have := List.append_inj' e rfl
        obtain ⟨e1, e2⟩ := this
        subst e1
        cases e2
        exact ⟨rfl, hx⟩
    · rintro ⟨e, hm⟩
      have e : g = f := e
      subst e
      exact .inr ⟨m, hm, rfl⟩
theorem rel_join {p q : Pr} (hp : Rel p) (hq : Rel q) (wp : WfO p.1) (wq : WfO q.1) : Rel (comb p.1 q.1, joinL p.2 q.2) := by
  obtain ⟨q1, q2⟩ := fold_with (h := fun x => x) (L := q.2) (A := p.2) hp.srt
  refine ⟨q1, fun s => ?_⟩
  show s ∈ q.2.foldl _ p.2 ↔ _
  rw [q2, inO_comb _ wp wq, Bool.or_eq_true, ← hp.mem, ← hq.mem]
  simp
theorem rel_below {p : Pr} (h : Rel p) (f : Int × Int) : Rel (belowO f.1 f.2 p.1, belowL f p.2) := by
  obtain ⟨q1, q2⟩ := fold_bel (f := f) (L := p.2) (A := []) List.Pairwise.nil
  refine ⟨q1, fun s => ?_⟩
  show s ∈ p.2.foldl _ [] ↔ _
  rw [q2, inO_below, h.mem, List.reverse_append]
  simp
theorem rel_step {i : Nat} {out : List Pr} (ok : ∀ p ∈ out, PrOk i p) (h : ∀ p ∈ out, Rel p) (x : Ac) : Rel (madeStep out x) := by
  have gd : ∀ k, Rel (out.getD k (none, [])) ∧ WfO (out.getD k (none, [])).1 := fun k => by
    refine ⟨?_, (getD_ok ok k).wf⟩
    rw [List.getD_eq_getElem?_getD]
    cases hk : out[k]? with
    | none => exact rel_none
    | some p => exact h p (List.mem_of_getElem? hk)
  obtain ⟨p1, p2⟩ := gd (bring x.a out.length)
  obtain ⟨q1, q2⟩ := gd (bring x.b out.length)
  unfold madeStep
  dsimp only
  split
  · split
    · exact rel_of x.l
    · exact rel_none
  · split
    · exact rel_push p1 x.f
    · split
      · exact rel_join p1 q1 p2 q2
      · split
        · exact rel_below p1 x.f
        · split
          · exact rel_empty
          · exact rel_none
theorem rel_made : ∀ (l : List Ac) (i : Nat) (out : List Pr), i ≤ 30 → (∀ p ∈ out, PrOk i p) → (∀ p ∈ out, Rel p) → ∀ p ∈ madeL i out l, Rel p
  | [], i, out, hi, ok, h => h
  | x :: l, i, out, hi, ok, h => by
    simp only [madeL]
    split
    · exact h
    · split
      · exact h
      · rename_i h30 h300
        refine rel_made l (i + 1) (out ++ [madeStep out x]) (by omega) (fun p hp => ?_) (fun p hp => ?_)
        · rcases List.mem_append.1 hp with hp | hp
          · exact (ok p hp).next
          · rcases List.mem_singleton.1 hp with rfl
            exact madeStep_ok ok x (by omega)
        · rcases List.mem_append.1 hp with hp | hp
          · exact h p hp
          · rcases List.mem_singleton.1 hp with rfl
            exact rel_step ok h x
end Go.Proofs.Ytfnmdmadaljjkaa
end

section
namespace Go.Proofs.Ytfnmdmadaljjkaa
open Go.Ab
set_option linter.unusedSimpArgs false
set_option linter.unusedVariables false
set_option maxRecDepth 20000

theorem srt_nodup {L : List Sk} (h : L.Pairwise (fun a b => lessL a b < 0)) : L.Nodup :=
  h.imp fun {a b} hab e => by subst e; have := (@lessL_eq a a).2 rfl; omega
theorem stkO_nodup {o : Option Tr} (h : WfO o) : (stkO o []).Nodup := by
  cases o with
  | none => simp [stkO]
  | some t => exact stk_nodup t [] (h t rfl)
theorem rel_perm {p : Pr} (h : Rel p) (w : WfO p.1) : p.2.Perm (stkO p.1 []) :=
  (List.perm_ext_iff_of_nodup (srt_nodup h.srt) (stkO_nodup w)).2 fun s => (h.mem s).trans (stkO_in w s).symm
theorem rel_ord {p : Pr} (h : Rel p) (w : WfO p.1) : ordS (stkO p.1 []) = p.2 :=
  (ordS_unique (rel_perm h w) (h.srt.imp fun {a b} hab => leB_iff.2 fun hba => by
    have := @lessL_gt a b
    omega)).symm
theorem rel_len {p : Pr} (h : Rel p) (w : WfO p.1) : (stkO p.1 []).length = p.2.length := (rel_perm h w).length_eq.symm
theorem rel_has {p : Pr} (h : Rel p) (l : Sk) : bareO (hasO p.1 l.reverse) = decide (l ∈ p.2) := by
  show inO p.1 l.reverse = _
  rw [Bool.eq_iff_iff, decide_eq_true_iff]
  exact (h.mem l).symm
theorem rel_bare {p : Pr} (h : Rel p) : bareO p.1 = decide ([] ∈ p.2) := rel_has h []
theorem in_ne : ∀ (t : Tr), Wf t → ∃ s, inO (some t) s = true
  | .mk b [], h => by
    rcases h.full with q | q
    · exact ⟨[], q⟩
    · exact absurd rfl q
  | .mk b (w :: ws), h => by
    have k := szT_kid (b := b) (ws := w :: ws) (w := w) (by simp)
    obtain ⟨s, hs⟩ := in_ne w.t (h.kid w (by simp))
    refine ⟨(w.s, w.l) :: s, ?_⟩
    rw [inO_cons]
    show inO (findW w.s w.l (w :: ws)) s = true
    rw [findW_head]
    exact hs
termination_by t => szT t
decreasing_by exact k
theorem inO_ext : ∀ (n : Nat) (a b : Option Tr), (∀ t, a = some t → szT t ≤ n) → WfO a → WfO b → (∀ s, inO a s = inO b s) → a = b
  | n, none, none, _, _, _, _ => rfl
  | n, none, some t, _, _, hb, h => by
    obtain ⟨s, hs⟩ := in_ne t (hb t rfl)
    rw [← h s, inO_none] at hs; cases hs
  | n, some t, none, _, ha, _, h => by
    obtain ⟨s, hs⟩ := in_ne t (ha t rfl)
    rw [h s, inO_none] at hs; cases hs
  | 0, some t, some u, hn, _, _, _ => by have := hn t rfl; have := szT_pos t; omega
  | n + 1, some (.mk b ws), some (.mk c vs), hn, ha, hb, h => by
    have e0 : b = c := h []
    subst e0
    have e1 : ws = vs := Srt.ext (ha _ rfl).srt (hb _ rfl).srt fun s l => by
      refine inO_ext n _ _ (fun t ht => ?_) (WfO.below (s := s) (l := l) ha) (WfO.below (s := s) (l := l) hb) (fun p => h ((s, l) :: p))
      obtain ⟨w, hw, _, _, q⟩ := findW_mem ht
      have := szT_kid (b := b) hw
      have := hn _ rfl
      rw [← q]; omega
    rw [e1]
theorem rel_same {p q : Pr} (hp : Rel p) (hq : Rel q) (wp : WfO p.1) (wq : WfO q.1) : p.1 = q.1 ↔ p.2 = q.2 := by
  constructor
  · intro e
    rw [← rel_ord hp wp, ← rel_ord hq wq, e]
  · intro e
    refine inO_ext (match p.1 with | none => 0 | some t => szT t) _ _ (fun t ht => by rw [ht]; exact Nat.le_refl _) wp wq fun s => ?_
    rw [Bool.eq_iff_iff]
    have h1 := hp.mem s.reverse
    have h2 := hq.mem s.reverse
    rw [List.reverse_reverse] at h1 h2
    rw [← h1, ← h2, e]

theorem cmpP_trans {a b c : Int × Int} (h : cmpP a b < 0) (k : cmpP b c < 0) : cmpP a c < 0 := by
  rw [cmpP_lt] at *; omega
theorem srtP_ext : ∀ {A B : Sk}, A.Pairwise (fun x y => cmpP x y < 0) → B.Pairwise (fun x y => cmpP x y < 0) → (∀ f, f ∈ A ↔ f ∈ B) → A = B := fun {A B} hA hB h => by
  have nd : ∀ {A : Sk}, A.Pairwise (fun x y => cmpP x y < 0) → A.Nodup := fun h => h.imp fun {a b} hab e => by subst e; have := (@cmpP_eq a a).2 rfl; omega
  refine List.Perm.eq_of_pairwise (fun a b _ _ h1 h2 => ?_) hA hB ((List.perm_ext_iff_of_nodup (nd hA) (nd hB)).2 h)
  have := cmpP_trans h1 h2
  have := (@cmpP_eq a a).2 rfl
  omega
def pairW (w : Wy) : Int × Int := (w.s, w.l)
theorem enc2_pair (l : List Wy) : l.map enc2 = (l.map pairW).map encP := by rw [List.map_map]; rfl
theorem srt_pw : ∀ {ws : List Wy}, Srt ws → (ws.map pairW).Pairwise (fun x y => cmpP x y < 0)
  | [], _ => by simp
  | w :: ws, h => by
    rw [List.map_cons, List.pairwise_cons]
    refine ⟨fun x hx => ?_, srt_pw h.2⟩
    obtain ⟨v, hv, rfl⟩ := List.mem_map.1 hx
    have := h.1 v hv
    rw [cmpP_lt]
    exact this
theorem tops_srt {o : Option Tr} (h : WfO o) : ((topsO o).map pairW).Pairwise (fun x y => cmpP x y < 0) := by
  cases o with
  | none => simp [topsO]
  | some t =>
    obtain ⟨b, ws⟩ := t
    exact srt_pw (h _ rfl).srt
theorem rel_tops {p : Pr} (h : Rel p) (w : WfO p.1) (f : Int × Int) : f ∈ (topsO p.1).map pairW ↔ ∃ s ∈ p.2, s.getLast? = some f := by
  have key : f ∈ (topsO p.1).map pairW ↔ ∃ q, inO p.1 (f :: q) = true := by
    cases ho : p.1 with
    | none => simp [topsO, inO_none]
    | some t =>
      obtain ⟨b, ws⟩ := t
      have hw := w _ ho
      constructor
      · intro hf
        obtain ⟨v, hv, rfl⟩ := List.mem_map.1 hf
        obtain ⟨q, hq⟩ := in_ne v.t (hw.kid v hv)
        refine ⟨q, ?_⟩
        rw [inO_cons]
        show inO (findW v.s v.l ws) q = true
        rw [findW_of_mem hw.srt hv]
        exact hq
      · rintro ⟨q, hq⟩
        rw [inO_cons] at hq
        have hq : inO (findW f.1 f.2 ws) q = true := hq
        cases hf : findW f.1 f.2 ws with
        | none => rw [hf, inO_none] at hq; cases hq
        | some u =>
          obtain ⟨v, hv, q1, q2, _⟩ := findW_mem hf
          exact List.mem_map.2 ⟨v, hv, by unfold pairW; rw [q1, q2]⟩
  rw [key]
  constructor
  · rintro ⟨q, hq⟩
    refine ⟨(f :: q).reverse, (h.mem _).2 (by rw [List.reverse_reverse]; exact hq), by simp⟩
  · rintro ⟨s, hs, hl⟩
    rcases List.eq_nil_or_concat s with rfl | ⟨m, g, rfl⟩
    · simp at hl
    · rw [List.concat_eq_append] at hl hs
      simp at hl
      subst hl
      have := (h.mem _).1 hs
      rw [List.reverse_append] at this
      exact ⟨_, this⟩
end Go.Proofs.Ytfnmdmadaljjkaa
end

section
namespace Go.Proofs.Ytfnmdmadaljjkaa
open Go.Ab
set_option linter.unusedSimpArgs false
set_option linter.unusedVariables false
set_option maxRecDepth 20000
set_option maxHeartbeats 4000000

theorem take_snoc {T : Type} {a b : List T} {i : Nat} {x : T} (hx : a[i]? = some x) (hy : b[i]? = some x) (h : a.take i = b.take i) : a.take (i + 1) = b.take (i + 1) := by
  rw [List.take_add_one, List.take_add_one, hx, hy, h]
theorem ne_at {T : Type} {a b : List T} {i : Nat} {x y : T} (hx : a[i]? = some x) (hy : b[i]? = some y) (h : x ≠ y) : a ≠ b := fun e => by
  subst e; rw [hx] at hy; cases hy; exact h rfl
theorem neq_b {f g : Int × Int} (hfg : f ≠ g) : (f.1 == g.1 && (f.2 == g.2 && true)) = false := by
  obtain ⟨a, b⟩ := f; obtain ⟨c, d⟩ := g
  simp only [ne_eq, Prod.mk.injEq, not_and] at hfg
  simp only [Bool.and_true, Bool.and_eq_false_iff, beq_eq_false_iff_ne]
  by_cases h : a = c
  · exact .inr (hfg h)
  · exact .inl h
def fmS (a b : Sk) (fa fb : Bool) (i : Nat) (_ : Unit) : St := ⟨[(13, .lit (.int .i64 (i : Int))), (12, .lit (.int .i64 (a.length : Int))), (0, .vec (a.map encP) fa), (1, .vec (b.map encP) fb)], .none, 26⟩
theorem frames_spec (a b : Sk) (fa fb : Bool) (ha : a.length ≤ 2000000000) (hb : b.length ≤ 2000000000) : PCall Try.prog 13 [.vec (a.map encP) fa, .vec (b.map encP) fb] (.lit (.bool (decide (a = b)))) := by
  refine PCall_intro Try.func13 rfl Try.ntmps13 (rs := [.tmp 4]) rfl (by simp) ?_
  simp -implicitDefEqProofs only [awl, ne_eq, srcRows, awo, aggEq, eqF, litEq, andO, qwl, qwo, Go.Ab.qOp, lop, oneK, stepOp, pairO, pureOp, heapOp, entry, slotsOf, ev, evL, evP, evO, lk, up, St.put, St.drop, constAV, cellAV, cellsAV, plain, binV, nilCmp, intBin, strBin, guardBit, boolOf, fnOf, intOfAV, bound, resOf, retV, moved, rowOf, valAt, Kd.agg, AV.cells, splice, places, fillAV, rowsFill, Hp.none, ↓reduceIte, reduceCtorEq, Nat.reduceLT, Nat.reduceEqDiff, Nat.reduceAdd, Nat.reduceLeDiff, Nat.reducePow, Nat.reduceMul, Yzz, Xzz, Yzy, tyW, List.length_map]
  by_cases h : a.length = b.length
  · have e1 : ((a.length : Int) == (b.length : Int)) = true := by rw [beq_iff_eq]; omega
    simp -implicitDefEqProofs only [awl, ne_eq, srcRows, awo, aggEq, eqF, litEq, andO, qwl, qwo, Go.Ab.qOp, lop, oneK, stepOp, pairO, pureOp, heapOp, entry, slotsOf, ev, evL, evP, evO, lk, up, St.put, St.drop, constAV, cellAV, cellsAV, plain, binV, nilCmp, intBin, strBin, guardBit, boolOf, fnOf, intOfAV, bound, resOf, retV, moved, rowOf, valAt, Kd.agg, AV.cells, splice, places, fillAV, rowsFill, Hp.none, ↓reduceIte, reduceCtorEq, Nat.reduceLT, Nat.reduceEqDiff, Nat.reduceAdd, Nat.reduceLeDiff, Nat.reducePow, Nat.reduceMul, Yzz, Xzz, Yzy, tyW, e1, bne, List.length_map]
    refine aw_forE a.length 0 (fmS a b fa fb) (fun i _ => a.take i = b.take i) (Nat.le_refl _) () (St.wk.cp (St.wk_slots (by simp [lk]))) (by simp) (fun i _ hlt hI => ?_) (fun _ hI => ?_)
    · have i1 : (i : Int) < (a.length : Int) := by omega
      have j1 : (i : Int) < (b.length : Int) := by omega
      have ncast : ∀ n : Nat, (0 : Int) ≤ (n : Int) := Int.natCast_nonneg
      obtain ⟨x, hx⟩ : ∃ x, a[i]? = some x := ⟨_, List.getElem?_eq_getElem hlt⟩
      obtain ⟨y, hy⟩ : ∃ y, b[i]? = some y := ⟨_, List.getElem?_eq_getElem (by omega)⟩
      have gx := map_getD encP hx
      have gy := map_getD encP hy
      have ex : ∀ p, encP p = [.lit (.int .i64 p.1), .lit (.int .i64 p.2)] := fun _ => rfl
      rw [ex] at gx gy
      simp -implicitDefEqProofs only [awl, ne_eq, srcRows, awo, aggEq, eqF, litEq, andO, qwl, qwo, Go.Ab.qOp, lop, oneK, stepOp, pairO, pureOp, heapOp, entry, slotsOf, ev, evL, evP, evO, lk, up, St.put, St.drop, constAV, cellAV, cellsAV, plain, binV, nilCmp, intBin, strBin, guardBit, boolOf, fnOf, intOfAV, bound, resOf, retV, moved, rowOf, valAt, Kd.agg, AV.cells, splice, places, fillAV, rowsFill, Hp.none, ↓reduceIte, reduceCtorEq, Nat.reduceLT, Nat.reduceEqDiff, Nat.reduceAdd, Nat.reduceLeDiff, Nat.reducePow, Nat.reduceMul, Yzz, Xzz, Yzy, tyW, fmS, i1, j1, decide_true, ncast, Int.toNat_natCast, gx, gy, List.length_map]
      refine aw_quietN (n := 26) rfl (by decide) mixed ?_
      simp -implicitDefEqProofs only [awl, ne_eq, srcRows, awo, aggEq, eqF, litEq, andO, qwl, qwo, Go.Ab.qOp, lop, oneK, stepOp, pairO, pureOp, heapOp, entry, slotsOf, ev, evL, evP, evO, lk, up, St.put, St.drop, constAV, cellAV, cellsAV, plain, binV, nilCmp, intBin, strBin, guardBit, boolOf, fnOf, intOfAV, bound, resOf, retV, moved, rowOf, valAt, Kd.agg, AV.cells, splice, places, fillAV, rowsFill, Hp.none, ↓reduceIte, reduceCtorEq, Nat.reduceLT, Nat.reduceEqDiff, Nat.reduceAdd, Nat.reduceLeDiff, Nat.reducePow, Nat.reduceMul, Yzz, Xzz, Yzy, tyW, i1, j1, ncast, Int.toNat_natCast, gx, gy, List.length_map, bne]
      by_cases h0 : x = y
      · subst h0
        have e0 : (x.1 == x.1 && (x.2 == x.2 && true)) = true := by simp
        simp -implicitDefEqProofs (disch := omega) only [awl, ne_eq, srcRows, awo, aggEq, eqF, litEq, andO, qwl, qwo, Go.Ab.qOp, lop, oneK, stepOp, pairO, pureOp, heapOp, entry, slotsOf, ev, evL, evP, evO, lk, up, St.put, St.drop, constAV, cellAV, cellsAV, plain, binV, nilCmp, intBin, strBin, guardBit, boolOf, fnOf, intOfAV, bound, resOf, retV, moved, rowOf, valAt, Kd.agg, AV.cells, splice, places, fillAV, rowsFill, Hp.none, ↓reduceIte, reduceCtorEq, Nat.reduceLT, Nat.reduceEqDiff, Nat.reduceAdd, Nat.reduceLeDiff, Nat.reducePow, Nat.reduceMul, Yzz, Xzz, Yzy, tyW, e0, i64w]
        exact ⟨(), take_snoc hx hy hI, St.wk.cp (St.wk_slots (by simp [lk]))⟩
      · have e0 : (x.1 == y.1 && (x.2 == y.2 && true)) = false := neq_b h0
        have e2 : decide (a = b) = false := decide_eq_false (ne_at hx hy h0)
        simp -implicitDefEqProofs only [awl, ne_eq, srcRows, awo, aggEq, eqF, litEq, andO, qwl, qwo, Go.Ab.qOp, lop, oneK, stepOp, pairO, pureOp, heapOp, entry, slotsOf, ev, evL, evP, evO, lk, up, St.put, St.drop, constAV, cellAV, cellsAV, plain, binV, nilCmp, intBin, strBin, guardBit, boolOf, fnOf, intOfAV, bound, resOf, retV, moved, rowOf, valAt, Kd.agg, AV.cells, splice, places, fillAV, rowsFill, Hp.none, ↓reduceIte, reduceCtorEq, Nat.reduceLT, Nat.reduceEqDiff, Nat.reduceAdd, Nat.reduceLeDiff, Nat.reducePow, Nat.reduceMul, Yzz, Xzz, Yzy, tyW, e0, e2]
        exact expo_pure (.lit _)
    · have i1 : ¬ (a.length : Int) < (a.length : Int) := by omega
      have e2 : decide (a = b) = true := decide_eq_true (by rw [List.take_length, h, List.take_length] at hI; exact hI)
      simp -implicitDefEqProofs only [awl, ne_eq, srcRows, awo, aggEq, eqF, litEq, andO, qwl, qwo, Go.Ab.qOp, lop, oneK, stepOp, pairO, pureOp, heapOp, entry, slotsOf, ev, evL, evP, evO, lk, up, St.put, St.drop, constAV, cellAV, cellsAV, plain, binV, nilCmp, intBin, strBin, guardBit, boolOf, fnOf, intOfAV, bound, resOf, retV, moved, rowOf, valAt, Kd.agg, AV.cells, splice, places, fillAV, rowsFill, Hp.none, ↓reduceIte, reduceCtorEq, Nat.reduceLT, Nat.reduceEqDiff, Nat.reduceAdd, Nat.reduceLeDiff, Nat.reducePow, Nat.reduceMul, Yzz, Xzz, Yzy, tyW, fmS, i1, decide_false, List.length_map, e2]
      exact expo_pure (.lit _)
  · have e1 : ((a.length : Int) == (b.length : Int)) = false := by rw [beq_eq_false_iff_ne]; omega
    have e2 : decide (a = b) = false := decide_eq_false fun e => h (by rw [e])
    simp -implicitDefEqProofs only [awl, ne_eq, srcRows, awo, aggEq, eqF, litEq, andO, qwl, qwo, Go.Ab.qOp, lop, oneK, stepOp, pairO, pureOp, heapOp, entry, slotsOf, ev, evL, evP, evO, lk, up, St.put, St.drop, constAV, cellAV, cellsAV, plain, binV, nilCmp, intBin, strBin, guardBit, boolOf, fnOf, intOfAV, bound, resOf, retV, moved, rowOf, valAt, Kd.agg, AV.cells, splice, places, fillAV, rowsFill, Hp.none, ↓reduceIte, reduceCtorEq, Nat.reduceLT, Nat.reduceEqDiff, Nat.reduceAdd, Nat.reduceLeDiff, Nat.reducePow, Nat.reduceMul, Yzz, Xzz, Yzy, tyW, e1, bne, List.length_map, e2]
    exact expo_pure (.lit _)
def hrS (L : List Sk) (l : Sk) (i : Nat) (_ : Unit) : St := ⟨[(5, .lit (.int .i64 (i : Int))), (2, .ptr 0 0), (1, .vec (l.map encP) false)], ⟨[(0, [.vec (L.map encR) false])], [], 1⟩, 21⟩
theorem Has_r (L : List Sk) (l : Sk) (hl : l.length ≤ 9223372036854775807) (hn : L.length ≤ 1000000000) (hL : ∀ x ∈ L, x.length ≤ 2000000000) : PCall Try.prog 11 [encBr L, encS l] (.lit (.bool (decide (l ∈ L)))) := by
  refine PCall_intro Try.func11 rfl Try.ntmps11 (rs := [.tmp 4]) rfl (by simp) ?_
  simp -implicitDefEqProofs only [awl, ne_eq, srcRows, awo, aggEq, eqF, litEq, andO, qwl, qwo, Go.Ab.qOp, lop, oneK, stepOp, pairO, pureOp, heapOp, entry, slotsOf, ev, evL, evP, evO, lk, up, St.put, St.drop, constAV, cellAV, cellsAV, plain, binV, nilCmp, intBin, strBin, guardBit, boolOf, fnOf, intOfAV, bound, resOf, retV, moved, rowOf, valAt, Kd.agg, AV.cells, splice, places, fillAV, rowsFill, Hp.none, ↓reduceIte, reduceCtorEq, Nat.reduceLT, Nat.reduceEqDiff, Nat.reduceAdd, Nat.reduceLeDiff, Nat.reducePow, Nat.reduceMul, Yzz, Xzz, Yzy, tyW, encBr, encS]
  refine aw_for L.length 1 (hrS L l) (fun i _ => ∀ x ∈ L.take i, x ≠ l) (fun i _ => rfl) () (St.wk_slots1 (by simp [lk]) (by simp [lk]) (fun t => rfl)) (by simp) (fun i _ hlt hI => ?_) (fun _ hI => ?_)
  · have i1 : (i : Int) < (L.length : Int) := by omega
    have ncast : ∀ n : Nat, (0 : Int) ≤ (n : Int) := Int.natCast_nonneg
    obtain ⟨x, hx⟩ : ∃ x, L[i]? = some x := ⟨_, List.getElem?_eq_getElem hlt⟩
    have gw := map_getD encR hx
    have er : encR x = [.vec (x.map encP) false] := rfl
    rw [er] at gw
    have hxm := List.mem_of_getElem? hx
    simp -implicitDefEqProofs only [awl, ne_eq, srcRows, awo, aggEq, eqF, litEq, andO, qwl, qwo, Go.Ab.qOp, lop, oneK, stepOp, pairO, pureOp, heapOp, entry, slotsOf, ev, evL, evP, evO, lk, up, St.put, St.drop, constAV, cellAV, cellsAV, plain, binV, nilCmp, intBin, strBin, guardBit, boolOf, fnOf, intOfAV, bound, resOf, retV, moved, rowOf, valAt, Kd.agg, AV.cells, splice, places, fillAV, rowsFill, Hp.none, ↓reduceIte, reduceCtorEq, Nat.reduceLT, Nat.reduceEqDiff, Nat.reduceAdd, Nat.reduceLeDiff, Nat.reducePow, Nat.reduceMul, Yzz, Xzz, Yzy, tyW, hrS, i1, decide_true, ncast, Int.toNat_natCast, gw, List.length_map]
    refine CallK_pure call41 (less_any x l (hL x hxm) hl) (allc (pureS x) (allc (pureS l) alln)) (.lit _) ?_
    by_cases h0 : x = l
    · have e0 : (lessL x l == 0) = true := by rw [beq_iff_eq]; exact lessL_eq.2 h0
      have e1 : decide (l ∈ L) = true := decide_eq_true (h0 ▸ hxm)
      simp -implicitDefEqProofs only [awl, ne_eq, srcRows, awo, aggEq, eqF, litEq, andO, qwl, qwo, Go.Ab.qOp, lop, oneK, stepOp, pairO, pureOp, heapOp, entry, slotsOf, ev, evL, evP, evO, lk, up, St.put, St.drop, constAV, cellAV, cellsAV, plain, binV, nilCmp, intBin, strBin, guardBit, boolOf, fnOf, intOfAV, bound, resOf, retV, moved, rowOf, valAt, Kd.agg, AV.cells, splice, places, fillAV, rowsFill, Hp.none, ↓reduceIte, reduceCtorEq, Nat.reduceLT, Nat.reduceEqDiff, Nat.reduceAdd, Nat.reduceLeDiff, Nat.reducePow, Nat.reduceMul, Yzz, Xzz, Yzy, tyW, e0, e1]
      exact expo_pure (.lit _)
    · have e0 : (lessL x l == 0) = false := by rw [beq_eq_false_iff_ne]; exact fun q => h0 (lessL_eq.1 q)
      simp -implicitDefEqProofs (disch := omega) only [awl, ne_eq, srcRows, awo, aggEq, eqF, litEq, andO, qwl, qwo, Go.Ab.qOp, lop, oneK, stepOp, pairO, pureOp, heapOp, entry, slotsOf, ev, evL, evP, evO, lk, up, St.put, St.drop, constAV, cellAV, cellsAV, plain, binV, nilCmp, intBin, strBin, guardBit, boolOf, fnOf, intOfAV, bound, resOf, retV, moved, rowOf, valAt, Kd.agg, AV.cells, splice, places, fillAV, rowsFill, Hp.none, ↓reduceIte, reduceCtorEq, Nat.reduceLT, Nat.reduceEqDiff, Nat.reduceAdd, Nat.reduceLeDiff, Nat.reducePow, Nat.reduceMul, Yzz, Xzz, Yzy, tyW, e0, i64w]
      refine ⟨(), fun z hz => ?_, St.wk.cp (St.wk_slots1 (by simp [lk]) (by simp [lk]) (fun t => rfl))⟩
      rw [List.take_add_one, hx] at hz
      rcases List.mem_append.1 hz with hz | hz
      · exact hI z hz
      · rcases List.mem_singleton.1 hz with rfl
        exact h0
  · have i1 : ¬ (L.length : Int) < (L.length : Int) := by omega
    have e1 : decide (l ∈ L) = false := decide_eq_false fun q => hI l (by rw [List.take_length]; exact q) rfl
    simp -implicitDefEqProofs only [awl, ne_eq, srcRows, awo, aggEq, eqF, litEq, andO, qwl, qwo, Go.Ab.qOp, lop, oneK, stepOp, pairO, pureOp, heapOp, entry, slotsOf, ev, evL, evP, evO, lk, up, St.put, St.drop, constAV, cellAV, cellsAV, plain, binV, nilCmp, intBin, strBin, guardBit, boolOf, fnOf, intOfAV, bound, resOf, retV, moved, rowOf, valAt, Kd.agg, AV.cells, splice, places, fillAV, rowsFill, Hp.none, ↓reduceIte, reduceCtorEq, Nat.reduceLT, Nat.reduceEqDiff, Nat.reduceAdd, Nat.reduceLeDiff, Nat.reducePow, Nat.reduceMul, Yzz, Xzz, Yzy, tyW, hrS, i1, decide_false, List.length_map, e1]
    exact expo_pure (.lit _)
def srS (A B : List Sk) (i : Nat) (_ : Unit) : St := ⟨[(5, .lit (.int .i64 (i : Int))), (3, .ptr 1 0), (2, .ptr 0 0)], ⟨[(0, [.vec (A.map encR) false]), (1, [.vec (B.map encR) false])], [], 2⟩, 32⟩
theorem Same_r (A B : List Sk) (hn : A.length ≤ 1000000000) (hA : ∀ x ∈ A, x.length ≤ 2000000000) (hB : ∀ x ∈ B, x.length ≤ 2000000000) : PCall Try.prog 17 [encBr A, encBr B] (.lit (.bool (decide (A = B)))) := by
  refine PCall_intro Try.func17 rfl Try.ntmps17 (rs := [.tmp 4]) rfl (by simp) ?_
  simp -implicitDefEqProofs only [awl, ne_eq, srcRows, awo, aggEq, eqF, litEq, andO, qwl, qwo, Go.Ab.qOp, lop, oneK, stepOp, pairO, pureOp, heapOp, entry, slotsOf, ev, evL, evP, evO, lk, up, St.put, St.drop, constAV, cellAV, cellsAV, plain, binV, nilCmp, intBin, strBin, guardBit, boolOf, fnOf, intOfAV, bound, resOf, retV, moved, rowOf, valAt, Kd.agg, AV.cells, splice, places, fillAV, rowsFill, Hp.none, ↓reduceIte, reduceCtorEq, Nat.reduceLT, Nat.reduceEqDiff, Nat.reduceAdd, Nat.reduceLeDiff, Nat.reducePow, Nat.reduceMul, Yzz, Xzz, Yzy, tyW, encBr, encS, List.length_map]
  by_cases h : A.length = B.length
  · have e1 : ((A.length : Int) == (B.length : Int)) = true := by rw [beq_iff_eq]; omega
    simp -implicitDefEqProofs only [awl, ne_eq, srcRows, awo, aggEq, eqF, litEq, andO, qwl, qwo, Go.Ab.qOp, lop, oneK, stepOp, pairO, pureOp, heapOp, entry, slotsOf, ev, evL, evP, evO, lk, up, St.put, St.drop, constAV, cellAV, cellsAV, plain, binV, nilCmp, intBin, strBin, guardBit, boolOf, fnOf, intOfAV, bound, resOf, retV, moved, rowOf, valAt, Kd.agg, AV.cells, splice, places, fillAV, rowsFill, Hp.none, ↓reduceIte, reduceCtorEq, Nat.reduceLT, Nat.reduceEqDiff, Nat.reduceAdd, Nat.reduceLeDiff, Nat.reducePow, Nat.reduceMul, Yzz, Xzz, Yzy, tyW, e1, bne, List.length_map]
    refine aw_for A.length 2 (srS A B) (fun i _ => A.take i = B.take i) (fun i _ => rfl) () (St.wk_slots1 (by simp [lk]) (by simp [lk]) (fun t => rfl)) (by simp) (fun i _ hlt hI => ?_) (fun _ hI => ?_)
    · have i1 : (i : Int) < (A.length : Int) := by omega
      have j1 : (i : Int) < (B.length : Int) := by omega
      have ncast : ∀ n : Nat, (0 : Int) ≤ (n : Int) := Int.natCast_nonneg
      obtain ⟨x, hx⟩ : ∃ x, A[i]? = some x := ⟨_, List.getElem?_eq_getElem hlt⟩
      obtain ⟨y, hy⟩ : ∃ y, B[i]? = some y := ⟨_, List.getElem?_eq_getElem (by omega)⟩
      have gx := map_getD encR hx
      have gy := map_getD encR hy
      have ex : ∀ x, encR x = [.vec (x.map encP) false] := fun _ => rfl
      rw [ex] at gx gy
      have hxm := List.mem_of_getElem? hx
      have hym := List.mem_of_getElem? hy
      simp -implicitDefEqProofs only [awl, ne_eq, srcRows, awo, aggEq, eqF, litEq, andO, qwl, qwo, Go.Ab.qOp, lop, oneK, stepOp, pairO, pureOp, heapOp, entry, slotsOf, ev, evL, evP, evO, lk, up, St.put, St.drop, constAV, cellAV, cellsAV, plain, binV, nilCmp, intBin, strBin, guardBit, boolOf, fnOf, intOfAV, bound, resOf, retV, moved, rowOf, valAt, Kd.agg, AV.cells, splice, places, fillAV, rowsFill, Hp.none, ↓reduceIte, reduceCtorEq, Nat.reduceLT, Nat.reduceEqDiff, Nat.reduceAdd, Nat.reduceLeDiff, Nat.reducePow, Nat.reduceMul, Yzz, Xzz, Yzy, tyW, srS, i1, j1, decide_true, ncast, Int.toNat_natCast, gx, gy, List.length_map]
      refine aw_quietN (n := 32) rfl (by decide) mixed ?_
      simp -implicitDefEqProofs only [awl, ne_eq, srcRows, awo, aggEq, eqF, litEq, andO, qwl, qwo, Go.Ab.qOp, lop, oneK, stepOp, pairO, pureOp, heapOp, entry, slotsOf, ev, evL, evP, evO, lk, up, St.put, St.drop, constAV, cellAV, cellsAV, plain, binV, nilCmp, intBin, strBin, guardBit, boolOf, fnOf, intOfAV, bound, resOf, retV, moved, rowOf, valAt, Kd.agg, AV.cells, splice, places, fillAV, rowsFill, Hp.none, ↓reduceIte, reduceCtorEq, Nat.reduceLT, Nat.reduceEqDiff, Nat.reduceAdd, Nat.reduceLeDiff, Nat.reducePow, Nat.reduceMul, Yzz, Xzz, Yzy, tyW, srS, i1, j1, decide_true, ncast, Int.toNat_natCast, gx, gy, List.length_map]
      refine CallQ_pure call41 (less_spec x y (hA x hxm) (hB y hym)) (allc (pureS x) (allc (pureS y) alln)) (.lit _) ?_
      by_cases h0 : x = y
      · have e0 : (lessL x y == 0) = true := by rw [beq_iff_eq]; exact lessL_eq.2 h0
        subst h0
        simp -implicitDefEqProofs (disch := omega) only [awl, ne_eq, srcRows, awo, aggEq, eqF, litEq, andO, qwl, qwo, Go.Ab.qOp, lop, oneK, stepOp, pairO, pureOp, heapOp, entry, slotsOf, ev, evL, evP, evO, lk, up, St.put, St.drop, constAV, cellAV, cellsAV, plain, binV, nilCmp, intBin, strBin, guardBit, boolOf, fnOf, intOfAV, bound, resOf, retV, moved, rowOf, valAt, Kd.agg, AV.cells, splice, places, fillAV, rowsFill, Hp.none, ↓reduceIte, reduceCtorEq, Nat.reduceLT, Nat.reduceEqDiff, Nat.reduceAdd, Nat.reduceLeDiff, Nat.reducePow, Nat.reduceMul, Yzz, Xzz, Yzy, tyW, bne, e0, i64w]
        exact ⟨(), take_snoc hx hy hI, St.wk.cp (St.wk_slots1 (by simp [lk]) (by simp [lk]) (fun t => rfl))⟩
      · have e0 : (lessL x y == 0) = false := by rw [beq_eq_false_iff_ne]; exact fun q => h0 (lessL_eq.1 q)
        have e2 : decide (A = B) = false := decide_eq_false (ne_at hx hy h0)
        simp -implicitDefEqProofs only [awl, ne_eq, srcRows, awo, aggEq, eqF, litEq, andO, qwl, qwo, Go.Ab.qOp, lop, oneK, stepOp, pairO, pureOp, heapOp, entry, slotsOf, ev, evL, evP, evO, lk, up, St.put, St.drop, constAV, cellAV, cellsAV, plain, binV, nilCmp, intBin, strBin, guardBit, boolOf, fnOf, intOfAV, bound, resOf, retV, moved, rowOf, valAt, Kd.agg, AV.cells, splice, places, fillAV, rowsFill, Hp.none, ↓reduceIte, reduceCtorEq, Nat.reduceLT, Nat.reduceEqDiff, Nat.reduceAdd, Nat.reduceLeDiff, Nat.reducePow, Nat.reduceMul, Yzz, Xzz, Yzy, tyW, bne, e0, e2]
        exact expo_pure (.lit _)
    · have i1 : ¬ (A.length : Int) < (A.length : Int) := by omega
      have e2 : decide (A = B) = true := decide_eq_true (by rw [List.take_length, h, List.take_length] at hI; exact hI)
      simp -implicitDefEqProofs only [awl, ne_eq, srcRows, awo, aggEq, eqF, litEq, andO, qwl, qwo, Go.Ab.qOp, lop, oneK, stepOp, pairO, pureOp, heapOp, entry, slotsOf, ev, evL, evP, evO, lk, up, St.put, St.drop, constAV, cellAV, cellsAV, plain, binV, nilCmp, intBin, strBin, guardBit, boolOf, fnOf, intOfAV, bound, resOf, retV, moved, rowOf, valAt, Kd.agg, AV.cells, splice, places, fillAV, rowsFill, Hp.none, ↓reduceIte, reduceCtorEq, Nat.reduceLT, Nat.reduceEqDiff, Nat.reduceAdd, Nat.reduceLeDiff, Nat.reducePow, Nat.reduceMul, Yzz, Xzz, Yzy, tyW, srS, i1, decide_false, List.length_map, e2]
      exact expo_pure (.lit _)
  · have e1 : ((A.length : Int) == (B.length : Int)) = false := by rw [beq_eq_false_iff_ne]; omega
    have e2 : decide (A = B) = false := decide_eq_false fun e => h (by rw [e])
    simp -implicitDefEqProofs only [awl, ne_eq, srcRows, awo, aggEq, eqF, litEq, andO, qwl, qwo, Go.Ab.qOp, lop, oneK, stepOp, pairO, pureOp, heapOp, entry, slotsOf, ev, evL, evP, evO, lk, up, St.put, St.drop, constAV, cellAV, cellsAV, plain, binV, nilCmp, intBin, strBin, guardBit, boolOf, fnOf, intOfAV, bound, resOf, retV, moved, rowOf, valAt, Kd.agg, AV.cells, splice, places, fillAV, rowsFill, Hp.none, ↓reduceIte, reduceCtorEq, Nat.reduceLT, Nat.reduceEqDiff, Nat.reduceAdd, Nat.reduceLeDiff, Nat.reducePow, Nat.reduceMul, Yzz, Xzz, Yzy, tyW, e1, bne, List.length_map, e2]
    exact expo_pure (.lit _)
end Go.Proofs.Ytfnmdmadaljjkaa
end

section
namespace Go.Proofs.Ytfnmdmadaljjkaa
open Go.Ab
set_option linter.unusedSimpArgs false
set_option linter.unusedVariables false
set_option maxRecDepth 20000
set_option maxHeartbeats 4000000

def insP (f : Int × Int) : Sk → Sk
  | [] => [f]
  | x :: l => if cmpP f x < 0 then f :: x :: l else x :: insP f l
theorem insP_iff {f g : Int × Int} : ∀ {B : Sk}, g ∈ insP f B ↔ g = f ∨ g ∈ B
  | [] => by simp [insP]
  | x :: l => by
    simp only [insP]
    split
    · simp
    · rw [List.mem_cons, insP_iff (B := l), List.mem_cons]
      constructor
      · rintro (h | h | h) <;> simp [h]
      · rintro (h | h | h) <;> simp [h]
theorem insP_len (f : Int × Int) : ∀ (B : Sk), (insP f B).length = B.length + 1
  | [] => rfl
  | x :: l => by
    simp only [insP]
    split
    · rfl
    · simp [insP_len f l]
theorem insP_srt {f : Int × Int} : ∀ {B : Sk}, f ∉ B → B.Pairwise (fun x y => cmpP x y < 0) → (insP f B).Pairwise (fun x y => cmpP x y < 0)
  | [], _, _ => by simp [insP]
  | x :: l, hn, h => by
    rw [List.pairwise_cons] at h
    simp only [insP]
    split
    · rename_i h1
      rw [List.pairwise_cons]
      refine ⟨fun z hz => ?_, List.pairwise_cons.2 h⟩
      rcases List.mem_cons.1 hz with rfl | hz
      · exact h1
      · exact cmpP_trans h1 (h.1 z hz)
    · rename_i h1
      rw [List.pairwise_cons]
      refine ⟨fun z hz => ?_, insP_srt (fun q => hn (by simp [q])) h.2⟩
      rcases insP_iff.1 hz with rfl | hz
      · have hne : ¬ cmpP z x = 0 := fun q => hn (by rw [cmpP_eq.1 q]; simp)
        have := @cmpP_gt z x
        show cmpP x z < 0
        omega
      · exact h.1 z hz
theorem insP_at {f : Int × Int} : ∀ {P D : Sk}, (∀ z ∈ P, ¬ cmpP f z < 0) → (∀ z ∈ D, cmpP f z < 0) → insP f (P ++ D) = P ++ f :: D
  | [], [], _, _ => rfl
  | [], x :: D, _, h => by simp only [List.nil_append, insP]; rw [if_pos (h x (by simp))]
  | x :: P, D, h, k => by
    simp only [List.cons_append, insP]
    rw [if_neg (h x (by simp)), insP_at (fun z hz => h z (by simp [hz])) k]
theorem set_two {P D : Sk} {x f : Int × Int} {n : Nat} (h : P.length = n) : ((P ++ x :: f :: D).set (n + 1) x).set n f = P ++ f :: x :: D := by
  subst h
  simp
def rwS (A B : List Sk) (fa : Bool) (i : Nat) (_ : Unit) : St := ⟨[(13, .lit (.int .i64 (i : Int))), (12, .lit (.int .i64 (A.length : Int))), (0, .vec (A.map encR) fa), (1, .vec (B.map encR) false)], .none, 27⟩
theorem rows_spec (A B : List Sk) (fa : Bool) (hn : A.length ≤ 1000000000) (hA : ∀ x ∈ A, x.length ≤ 2000000000) (hB : ∀ x ∈ B, x.length ≤ 2000000000) : PCall Try.prog 8 [.vec (A.map encR) fa, .vec (B.map encR) false] (.lit (.bool (decide (A = B)))) := by
  refine PCall_intro Try.func8 rfl Try.ntmps8 (rs := [.tmp 4]) rfl (by simp) ?_
  simp -implicitDefEqProofs only [awl, ne_eq, srcRows, awo, aggEq, eqF, litEq, andO, qwl, qwo, Go.Ab.qOp, lop, oneK, stepOp, pairO, pureOp, heapOp, entry, slotsOf, ev, evL, evP, evO, lk, up, St.put, St.drop, constAV, cellAV, cellsAV, plain, binV, nilCmp, intBin, strBin, guardBit, boolOf, fnOf, intOfAV, bound, resOf, retV, moved, rowOf, valAt, Kd.agg, AV.cells, splice, places, fillAV, rowsFill, Hp.none, ↓reduceIte, reduceCtorEq, Nat.reduceLT, Nat.reduceEqDiff, Nat.reduceAdd, Nat.reduceLeDiff, Nat.reducePow, Nat.reduceMul, Yzz, Xzz, Yzy, tyW, List.length_map]
  by_cases h : A.length = B.length
  · have e1 : ((A.length : Int) == (B.length : Int)) = true := by rw [beq_iff_eq]; omega
    simp -implicitDefEqProofs only [awl, ne_eq, srcRows, awo, aggEq, eqF, litEq, andO, qwl, qwo, Go.Ab.qOp, lop, oneK, stepOp, pairO, pureOp, heapOp, entry, slotsOf, ev, evL, evP, evO, lk, up, St.put, St.drop, constAV, cellAV, cellsAV, plain, binV, nilCmp, intBin, strBin, guardBit, boolOf, fnOf, intOfAV, bound, resOf, retV, moved, rowOf, valAt, Kd.agg, AV.cells, splice, places, fillAV, rowsFill, Hp.none, ↓reduceIte, reduceCtorEq, Nat.reduceLT, Nat.reduceEqDiff, Nat.reduceAdd, Nat.reduceLeDiff, Nat.reducePow, Nat.reduceMul, Yzz, Xzz, Yzy, tyW, e1, bne, List.length_map]
    refine aw_forE A.length 0 (rwS A B fa) (fun i _ => A.take i = B.take i) (Nat.le_refl _) () (St.wk.cp (St.wk_slots (by simp [lk]))) (by simp) (fun i _ hlt hI => ?_) (fun _ hI => ?_)
    · have i1 : (i : Int) < (A.length : Int) := by omega
      have j1 : (i : Int) < (B.length : Int) := by omega
      have ncast : ∀ n : Nat, (0 : Int) ≤ (n : Int) := Int.natCast_nonneg
      obtain ⟨x, hx⟩ : ∃ x, A[i]? = some x := ⟨_, List.getElem?_eq_getElem hlt⟩
      obtain ⟨y, hy⟩ : ∃ y, B[i]? = some y := ⟨_, List.getElem?_eq_getElem (by omega)⟩
      have gx := map_getD encR hx
      have gy := map_getD encR hy
      have ex : ∀ x, encR x = [.vec (x.map encP) false] := fun _ => rfl
      rw [ex] at gx gy
      have hxm := List.mem_of_getElem? hx
      have hym := List.mem_of_getElem? hy
      simp -implicitDefEqProofs only [awl, ne_eq, srcRows, awo, aggEq, eqF, litEq, andO, qwl, qwo, Go.Ab.qOp, lop, oneK, stepOp, pairO, pureOp, heapOp, entry, slotsOf, ev, evL, evP, evO, lk, up, St.put, St.drop, constAV, cellAV, cellsAV, plain, binV, nilCmp, intBin, strBin, guardBit, boolOf, fnOf, intOfAV, bound, resOf, retV, moved, rowOf, valAt, Kd.agg, AV.cells, splice, places, fillAV, rowsFill, Hp.none, ↓reduceIte, reduceCtorEq, Nat.reduceLT, Nat.reduceEqDiff, Nat.reduceAdd, Nat.reduceLeDiff, Nat.reducePow, Nat.reduceMul, Yzz, Xzz, Yzy, tyW, rwS, i1, j1, decide_true, ncast, Int.toNat_natCast, gx, gy, List.length_map]
      refine aw_quietN (n := 27) rfl (by decide) mixed ?_
      simp -implicitDefEqProofs only [awl, ne_eq, srcRows, awo, aggEq, eqF, litEq, andO, qwl, qwo, Go.Ab.qOp, lop, oneK, stepOp, pairO, pureOp, heapOp, entry, slotsOf, ev, evL, evP, evO, lk, up, St.put, St.drop, constAV, cellAV, cellsAV, plain, binV, nilCmp, intBin, strBin, guardBit, boolOf, fnOf, intOfAV, bound, resOf, retV, moved, rowOf, valAt, Kd.agg, AV.cells, splice, places, fillAV, rowsFill, Hp.none, ↓reduceIte, reduceCtorEq, Nat.reduceLT, Nat.reduceEqDiff, Nat.reduceAdd, Nat.reduceLeDiff, Nat.reducePow, Nat.reduceMul, Yzz, Xzz, Yzy, tyW, i1, j1, decide_true, ncast, Int.toNat_natCast, gx, gy, List.length_map]
      refine CallQ_pure call13 (frames_spec x y false false (hA x hxm) (hB y hym)) (allc (pureS x) (allc (pureS y) alln)) (.lit _) ?_
      by_cases h0 : x = y
      · have e0 : decide (x = y) = true := decide_eq_true h0
        simp -implicitDefEqProofs (disch := omega) only [awl, ne_eq, srcRows, awo, aggEq, eqF, litEq, andO, qwl, qwo, Go.Ab.qOp, lop, oneK, stepOp, pairO, pureOp, heapOp, entry, slotsOf, ev, evL, evP, evO, lk, up, St.put, St.drop, constAV, cellAV, cellsAV, plain, binV, nilCmp, intBin, strBin, guardBit, boolOf, fnOf, intOfAV, bound, resOf, retV, moved, rowOf, valAt, Kd.agg, AV.cells, splice, places, fillAV, rowsFill, Hp.none, ↓reduceIte, reduceCtorEq, Nat.reduceLT, Nat.reduceEqDiff, Nat.reduceAdd, Nat.reduceLeDiff, Nat.reducePow, Nat.reduceMul, Yzz, Xzz, Yzy, tyW, bne, e0, i64w]
        subst h0
        exact ⟨(), take_snoc hx hy hI, St.wk.cp (St.wk_slots (by simp [lk]))⟩
      · have e0 : decide (x = y) = false := decide_eq_false h0
        have e2 : decide (A = B) = false := decide_eq_false (ne_at hx hy h0)
        simp -implicitDefEqProofs only [awl, ne_eq, srcRows, awo, aggEq, eqF, litEq, andO, qwl, qwo, Go.Ab.qOp, lop, oneK, stepOp, pairO, pureOp, heapOp, entry, slotsOf, ev, evL, evP, evO, lk, up, St.put, St.drop, constAV, cellAV, cellsAV, plain, binV, nilCmp, intBin, strBin, guardBit, boolOf, fnOf, intOfAV, bound, resOf, retV, moved, rowOf, valAt, Kd.agg, AV.cells, splice, places, fillAV, rowsFill, Hp.none, ↓reduceIte, reduceCtorEq, Nat.reduceLT, Nat.reduceEqDiff, Nat.reduceAdd, Nat.reduceLeDiff, Nat.reducePow, Nat.reduceMul, Yzz, Xzz, Yzy, tyW, bne, e0, e2]
        exact expo_pure (.lit _)
    · have i1 : ¬ (A.length : Int) < (A.length : Int) := by omega
      have e2 : decide (A = B) = true := decide_eq_true (by rw [List.take_length, h, List.take_length] at hI; exact hI)
      simp -implicitDefEqProofs only [awl, ne_eq, srcRows, awo, aggEq, eqF, litEq, andO, qwl, qwo, Go.Ab.qOp, lop, oneK, stepOp, pairO, pureOp, heapOp, entry, slotsOf, ev, evL, evP, evO, lk, up, St.put, St.drop, constAV, cellAV, cellsAV, plain, binV, nilCmp, intBin, strBin, guardBit, boolOf, fnOf, intOfAV, bound, resOf, retV, moved, rowOf, valAt, Kd.agg, AV.cells, splice, places, fillAV, rowsFill, Hp.none, ↓reduceIte, reduceCtorEq, Nat.reduceLT, Nat.reduceEqDiff, Nat.reduceAdd, Nat.reduceLeDiff, Nat.reducePow, Nat.reduceMul, Yzz, Xzz, Yzy, tyW, rwS, i1, decide_false, List.length_map, e2]
      exact expo_pure (.lit _)
  · have e1 : ((A.length : Int) == (B.length : Int)) = false := by rw [beq_eq_false_iff_ne]; omega
    have e2 : decide (A = B) = false := decide_eq_false fun e => h (by rw [e])
    simp -implicitDefEqProofs only [awl, ne_eq, srcRows, awo, aggEq, eqF, litEq, andO, qwl, qwo, Go.Ab.qOp, lop, oneK, stepOp, pairO, pureOp, heapOp, entry, slotsOf, ev, evL, evP, evO, lk, up, St.put, St.drop, constAV, cellAV, cellsAV, plain, binV, nilCmp, intBin, strBin, guardBit, boolOf, fnOf, intOfAV, bound, resOf, retV, moved, rowOf, valAt, Kd.agg, AV.cells, splice, places, fillAV, rowsFill, Hp.none, ↓reduceIte, reduceCtorEq, Nat.reduceLT, Nat.reduceEqDiff, Nat.reduceAdd, Nat.reduceLeDiff, Nat.reducePow, Nat.reduceMul, Yzz, Xzz, Yzy, tyW, e1, bne, List.length_map, e2]
    exact expo_pure (.lit _)

def topsStep (out : Sk) (x : Sk) : Sk := match x.getLast? with
  | none => out
  | some f => if f ∈ out then out else insP f out
def topsL (L : List Sk) : Sk := L.foldl topsStep []
def tpS (L : List Sk) (i : Nat) (out : Sk) : St := ⟨[(4, .lit (.int .i64 (i : Int))), (1, .ptr 0 0), (3, grA 1 (out.map encP))], ⟨[(0, [.vec (L.map encR) false])], grT 1 2 (out.map encP), grN 1 (out.map encP)⟩, 93⟩
theorem getD_some {T : Type} {l : List T} {i : Nat} {x d : T} (h : l[i]? = some x) : l.getD i d = x := by rw [List.getD_eq_getElem?_getD, h]; rfl
theorem tp_back {σ : St} {L : List Sk} {i t : Nat} {M : Sk} (h4 : lk σ.slots 4 = some (.lit (.int .i64 ((i : Nat) : Int)))) (h1 : lk σ.slots 1 = some (.ptr 0 0)) (h3 : lk σ.slots 3 = some (.own t M.length))
    (hb : lk σ.hp.boxes 0 = some [.vec (L.map encR) false]) (ht : lk σ.hp.toks t = some ⟨M.map encP, 0, 2⟩) (hM : M ≠ []) (h1t : 1 ≤ t) (htn : t < σ.hp.nx) (hn : σ.nt = 93) : St.cp 1 σ (tpS L i M) := by
  cases M with
  | nil => exact absurd rfl hM
  | cons y M =>
    have e : (y :: M).length = ((M.map encP).length + 1) := by simp
    rw [e] at h3
    refine St.cp_of 1 [t] (by omega) rfl hn.symm (by simp) (by intro x hx; rcases List.mem_singleton.1 hx with rfl; exact ⟨h1t, htn⟩) ?_ ?_ ?_
    · exact allc ⟨_, h4, .pure (.lit _)⟩ (allc ⟨_, h1, .ptr (by show 0 < 2; decide) rfl⟩ (allc ⟨_, h3, .own (by show 1 < 2; decide) rfl⟩ alln))
    · exact allc ⟨by show 0 < 2; decide, _, hb, .pure (allc (.vec (pure_rows pureR _)) alln)⟩ alln
    · exact allc ⟨by show 1 < 2; decide, _, ht, rfl, rfl, .pure (pure_rows pure_encP (y :: M))⟩ alln
theorem topsL_next {L : List Sk} {i : Nat} {x : Sk} (h : L[i]? = some x) : topsL (L.take (i + 1)) = topsStep (topsL (L.take i)) x := by
  unfold topsL; rw [List.take_add_one, h, List.foldl_append]; rfl
theorem getLast_snoc (m : Sk) (f : Int × Int) : (m ++ [f]).getLast? = some f := by simp
theorem topsStep_ok {out x : Sk} (h : out.Pairwise (fun x y => cmpP x y < 0)) : (topsStep out x).Pairwise (fun x y => cmpP x y < 0) ∧ (topsStep out x).length ≤ out.length + 1 ∧ ∀ f, f ∈ topsStep out x ↔ f ∈ out ∨ x.getLast? = some f := by
  unfold topsStep
  split
  · rename_i e
    refine ⟨h, by omega, fun f => by rw [e]; simp⟩
  · rename_i g e
    split
    · rename_i hg
      refine ⟨h, by omega, fun f => ?_⟩
      rw [e]
      constructor
      · exact .inl
      · rintro (q | q)
        · exact q
        · cases q; exact hg
    · rename_i hg
      refine ⟨insP_srt hg h, by rw [insP_len]; omega, fun f => ?_⟩
      rw [insP_iff, e, Option.some.injEq]
      constructor
      · rintro (q | q)
        · exact .inr q.symm
        · exact .inl q
      · rintro (q | q)
        · exact .inr q
        · exact .inl q.symm
theorem topsL_ok (L : List Sk) : (topsL L).Pairwise (fun x y => cmpP x y < 0) ∧ ∀ f, f ∈ topsL L ↔ ∃ s ∈ L, s.getLast? = some f := by
  have main : ∀ (L : List Sk) (out : Sk), out.Pairwise (fun x y => cmpP x y < 0) → (L.foldl topsStep out).Pairwise (fun x y => cmpP x y < 0) ∧ ∀ f, f ∈ L.foldl topsStep out ↔ f ∈ out ∨ ∃ s ∈ L, s.getLast? = some f := by
    intro L
    induction L with
    | nil => intro out h; exact ⟨h, fun f => by simp⟩
    | cons x L ih =>
      intro out h
      obtain ⟨h1, _, h3⟩ := topsStep_ok (x := x) h
      obtain ⟨k1, k2⟩ := ih _ h1
      refine ⟨k1, fun f => ?_⟩
      rw [List.foldl_cons, k2, h3]
      simp only [List.mem_cons, exists_eq_or_imp]
      rw [or_assoc]
  obtain ⟨h1, h2⟩ := main L [] (by simp)
  exact ⟨h1, fun f => by rw [show topsL L = L.foldl topsStep [] from rfl, h2]; simp⟩
theorem Tops_r (L : List Sk) (hl : L.length ≤ 1000000000) (hL : ∀ x ∈ L, x.length ≤ 1000000000) : PCall Try.prog 15 [encBr L] (.vec ((topsL L).map encP) false) := by
  refine PCall_intro Try.func15 rfl Try.ntmps15 (rs := [.tmp 2]) rfl (by simp) ?_
  simp -implicitDefEqProofs only [awl, ne_eq, srcRows, awo, aggEq, eqF, litEq, andO, qwl, qwo, Go.Ab.qOp, lop, oneK, stepOp, pairO, pureOp, heapOp, entry, slotsOf, ev, evL, evP, evO, lk, up, St.put, St.drop, constAV, cellAV, cellsAV, plain, binV, nilCmp, intBin, strBin, guardBit, boolOf, fnOf, intOfAV, bound, resOf, retV, moved, rowOf, valAt, Kd.agg, AV.cells, splice, places, fillAV, rowsFill, Hp.none, ↓reduceIte, reduceCtorEq, Nat.reduceLT, Nat.reduceEqDiff, Nat.reduceAdd, Nat.reduceLeDiff, Nat.reducePow, Nat.reduceMul, Yzz, Xzz, Yzy, tyW, encBr, List.length_map]
  refine aw_forE L.length 1 (tpS L) (fun i out => out = topsL (L.take i) ∧ out.length ≤ i ∧ out.Pairwise (fun x y => cmpP x y < 0)) (Nat.le_refl _) [] (St.wk.cp (St.wk_slots1 (by simp [lk, grA]) (by simp [lk, grA]) (by simp [lk, grT]))) (by simp [topsL]) (fun i out hlt ⟨hI, hle, hsr⟩ => ?_) (fun out ⟨hI, _, _⟩ => ?_)
  · have i1 : (i : Int) < (L.length : Int) := by omega
    have ncast : ∀ n : Nat, (0 : Int) ≤ (n : Int) := Int.natCast_nonneg
    obtain ⟨x, hx⟩ : ∃ x, L[i]? = some x := ⟨_, List.getElem?_eq_getElem hlt⟩
    have hN := topsL_next hx
    rw [← hI] at hN
    have hO : (topsL (L.take (i + 1))).Pairwise (fun x y => cmpP x y < 0) ∧ (topsL (L.take (i + 1))).length ≤ i + 1 := by
      rw [hN]; obtain ⟨q1, q2, _⟩ := topsStep_ok (x := x) hsr; exact ⟨q1, by omega⟩
    have gx := map_getD encR hx
    have ex : ∀ x, encR x = [.vec (x.map encP) false] := fun _ => rfl
    rw [ex] at gx
    unfold tpS
    simp -implicitDefEqProofs only [awl, ne_eq, srcRows, awo, aggEq, eqF, litEq, andO, qwl, qwo, Go.Ab.qOp, lop, oneK, stepOp, pairO, pureOp, heapOp, entry, slotsOf, ev, evL, evP, evO, lk, up, St.put, St.drop, constAV, cellAV, cellsAV, plain, binV, nilCmp, intBin, strBin, guardBit, boolOf, fnOf, intOfAV, bound, resOf, retV, moved, rowOf, valAt, Kd.agg, AV.cells, splice, places, fillAV, rowsFill, Hp.none, ↓reduceIte, reduceCtorEq, Nat.reduceLT, Nat.reduceEqDiff, Nat.reduceAdd, Nat.reduceLeDiff, Nat.reducePow, Nat.reduceMul, Yzz, Xzz, Yzy, tyW, i1, decide_true, ncast, Int.toNat_natCast, gx, List.length_map]
    rcases List.eq_nil_or_concat x with rfl | ⟨m, f, rfl⟩
    · simp -implicitDefEqProofs (disch := omega) only [awl, ne_eq, srcRows, awo, aggEq, eqF, litEq, andO, qwl, qwo, Go.Ab.qOp, lop, oneK, stepOp, pairO, pureOp, heapOp, entry, slotsOf, ev, evL, evP, evO, lk, up, St.put, St.drop, constAV, cellAV, cellsAV, plain, binV, nilCmp, intBin, strBin, guardBit, boolOf, fnOf, intOfAV, bound, resOf, retV, moved, rowOf, valAt, Kd.agg, AV.cells, splice, places, fillAV, rowsFill, Hp.none, ↓reduceIte, reduceCtorEq, Nat.reduceLT, Nat.reduceEqDiff, Nat.reduceAdd, Nat.reduceLeDiff, Nat.reducePow, Nat.reduceMul, Yzz, Xzz, Yzy, tyW, List.length_nil, beq_self_eq_true, Int.natCast_zero, i64w]
      refine ⟨out, ⟨by rw [hN]; rfl, by omega, hsr⟩, St.wk.cp (St.wk_slots (by simp [lk]))⟩
    · rw [List.concat_eq_append] at hx hN gx ⊢
      have hmx : (m ++ [f]).length ≤ 1000000000 := hL _ (List.mem_of_getElem? hx)
      have ln : (((m ++ [f]).length : Nat) : Int) = (m.length : Int) + 1 := by simp
      rw [List.length_append, List.length_singleton] at hmx
      have z0 : ((m.length : Int) + 1 == 0) = false := by rw [beq_eq_false_iff_ne]; omega
      have w0 : IntKind.i64.wrap ((m.length : Int) + 1 - 1) = (m.length : Int) := by rw [i64w (by omega) (by omega)]; omega
      have j1 : (m.length : Int) < (m.length : Int) + 1 := by omega
      have gf : ((m ++ [f]).map encP).getD m.length [] = encP f := map_getD encP (by simp)
      have ef : ∀ f, encP f = [.lit (.int .i64 f.1), .lit (.int .i64 f.2)] := fun _ => rfl
      rw [ef] at gf
      have hst : topsStep out (m ++ [f]) = if f ∈ out then out else insP f out := by unfold topsStep; rw [List.getLast?_concat]
      rw [hst] at hN
      simp -implicitDefEqProofs only [awl, ne_eq, srcRows, awo, aggEq, eqF, litEq, andO, qwl, qwo, Go.Ab.qOp, lop, oneK, stepOp, pairO, pureOp, heapOp, entry, slotsOf, ev, evL, evP, evO, lk, up, St.put, St.drop, constAV, cellAV, cellsAV, plain, binV, nilCmp, intBin, strBin, guardBit, boolOf, fnOf, intOfAV, bound, resOf, retV, moved, rowOf, valAt, Kd.agg, AV.cells, splice, places, fillAV, rowsFill, Hp.none, ↓reduceIte, reduceCtorEq, Nat.reduceLT, Nat.reduceEqDiff, Nat.reduceAdd, Nat.reduceLeDiff, Nat.reducePow, Nat.reduceMul, Yzz, Xzz, Yzy, tyW, ln, z0, w0, j1, ncast, Int.toNat_natCast, gf, List.length_map]
      clear hst
      cases out with
      | nil =>
        have c0 : ((0 : Int) < 0) = False := by simp
        simp -implicitDefEqProofs only [awl, ne_eq, srcRows, awo, aggEq, eqF, litEq, andO, qwl, qwo, Go.Ab.qOp, lop, oneK, stepOp, pairO, pureOp, heapOp, entry, slotsOf, ev, evL, evP, evO, lk, up, St.put, St.drop, constAV, cellAV, cellsAV, plain, binV, nilCmp, intBin, strBin, guardBit, boolOf, fnOf, intOfAV, bound, resOf, retV, moved, rowOf, valAt, Kd.agg, AV.cells, splice, places, fillAV, rowsFill, Hp.none, ↓reduceIte, reduceCtorEq, Nat.reduceLT, Nat.reduceEqDiff, Nat.reduceAdd, Nat.reduceLeDiff, Nat.reducePow, Nat.reduceMul, Yzz, Xzz, Yzy, tyW, i1, ncast, Int.toNat_natCast, gx, ln, w0, j1, gf, List.length_map, List.map_nil, grA_nil, grT_nil, grN_nil]
        refine aw_for 0 2 (fun _ (_ : Unit) => ⟨[(8, .lit (.int .i64 0)), (7, .lit (.bool false)), (6, .ptr 1 0), (4, .lit (.int .i64 (i : Int))), (1, .ptr 0 0), (3, .vec [] true)], ⟨[(0, [.vec (L.map encR) false]), (1, [.lit (.int .i64 f.1), .lit (.int .i64 f.2)])], [], 2⟩, 93⟩) (fun _ _ => True) (fun _ _ => rfl) () ?_ trivial (fun _ _ h _ => absurd h (Nat.not_lt_zero _)) (fun _ _ => ?_)
        · exact St.wk_slots (by simp [lk])
        have hfit0 : fits 1 16 := by decide
        have w1 : IntKind.i64.wrap (((1 : Nat) : Int) - 1) = 0 := by decide
        have e2 : ∀ q ∈ ([[.lit (.int .i64 f.1), .lit (.int .i64 f.2)]] : List (List AV)), q.length = 2 := by intro q hq; rcases List.mem_singleton.1 hq with rfl; rfl
        have e3 : ∀ q ∈ ([] : List (List AV)), q.length = 2 := by simp
        simp -implicitDefEqProofs only [awl, ne_eq, srcRows, awo, aggEq, eqF, litEq, andO, qwl, qwo, Go.Ab.qOp, lop, oneK, stepOp, pairO, pureOp, heapOp, entry, slotsOf, ev, evL, evP, evO, lk, up, St.put, St.drop, constAV, cellAV, cellsAV, plain, binV, nilCmp, intBin, strBin, guardBit, boolOf, fnOf, intOfAV, bound, resOf, retV, moved, rowOf, valAt, Kd.agg, AV.cells, splice, places, fillAV, rowsFill, Hp.none, ↓reduceIte, reduceCtorEq, Nat.reduceLT, Nat.reduceEqDiff, Nat.reduceAdd, Nat.reduceLeDiff, Nat.reducePow, Nat.reduceMul, Yzz, Xzz, Yzy, tyW, List.length_nil, Int.natCast_zero, c0, decide_false, hfit0, List.mem_singleton, forall_eq, List.not_mem_nil, false_imp_iff, implies_true, w1]
        refine aw_for 0 3 (fun _ (_ : Unit) => ⟨[(9, .lit (.int .i64 0)), (4, .lit (.int .i64 (i : Int))), (1, .ptr 0 0), (3, .own 2 1)], ⟨[(0, [.vec (L.map encR) false])], [(2, ⟨[[.lit (.int .i64 f.1), .lit (.int .i64 f.2)]], 0, 2⟩)], 3⟩, 93⟩) (fun _ _ => True) (fun _ _ => rfl) () ?_ trivial (fun _ _ h _ => absurd h (Nat.not_lt_zero _)) (fun _ _ => ?_)
        · exact St.wk_slots1 (by simp [lk]) (by simp [lk]) (by simp [lk])
        simp -implicitDefEqProofs only [awl, ne_eq, srcRows, awo, aggEq, eqF, litEq, andO, qwl, qwo, Go.Ab.qOp, lop, oneK, stepOp, pairO, pureOp, heapOp, entry, slotsOf, ev, evL, evP, evO, lk, up, St.put, St.drop, constAV, cellAV, cellsAV, plain, binV, nilCmp, intBin, strBin, guardBit, boolOf, fnOf, intOfAV, bound, resOf, retV, moved, rowOf, valAt, Kd.agg, AV.cells, splice, places, fillAV, rowsFill, Hp.none, ↓reduceIte, reduceCtorEq, Nat.reduceLT, Nat.reduceEqDiff, Nat.reduceAdd, Nat.reduceLeDiff, Nat.reducePow, Nat.reduceMul, Yzz, Xzz, Yzy, tyW, c0, decide_false]
        refine aw_quietN (n := 93) rfl (by decide) mixed ?_
        simp -implicitDefEqProofs (disch := omega) only [awl, ne_eq, srcRows, awo, aggEq, eqF, litEq, andO, qwl, qwo, Go.Ab.qOp, lop, oneK, stepOp, pairO, pureOp, heapOp, entry, slotsOf, ev, evL, evP, evO, lk, up, St.put, St.drop, constAV, cellAV, cellsAV, plain, binV, nilCmp, intBin, strBin, guardBit, boolOf, fnOf, intOfAV, bound, resOf, retV, moved, rowOf, valAt, Kd.agg, AV.cells, splice, places, fillAV, rowsFill, Hp.none, ↓reduceIte, reduceCtorEq, Nat.reduceLT, Nat.reduceEqDiff, Nat.reduceAdd, Nat.reduceLeDiff, Nat.reducePow, Nat.reduceMul, Yzz, Xzz, Yzy, tyW, c0, decide_false, i64w]
        have hin : f ∉ ([] : Sk) := by simp
        rw [if_neg hin] at hN
        refine ⟨[f], ⟨hN.symm, by simp, by simp⟩, ?_⟩
        exact tp_back (t := 2) (by simp [lk]) (by simp [lk]) (by simp [lk]) (by simp [lk]) (by simp [lk, encP]) (by simp) (by decide) (by show 2 < 3; decide) rfl
      | cons y out =>
        have hll : out.length + 1 ≤ i := hle
        simp -implicitDefEqProofs only [awl, ne_eq, srcRows, awo, aggEq, eqF, litEq, andO, qwl, qwo, Go.Ab.qOp, lop, oneK, stepOp, pairO, pureOp, heapOp, entry, slotsOf, ev, evL, evP, evO, lk, up, St.put, St.drop, constAV, cellAV, cellsAV, plain, binV, nilCmp, intBin, strBin, guardBit, boolOf, fnOf, intOfAV, bound, resOf, retV, moved, rowOf, valAt, Kd.agg, AV.cells, splice, places, fillAV, rowsFill, Hp.none, ↓reduceIte, reduceCtorEq, Nat.reduceLT, Nat.reduceEqDiff, Nat.reduceAdd, Nat.reduceLeDiff, Nat.reducePow, Nat.reduceMul, Yzz, Xzz, Yzy, tyW, i1, ncast, Int.toNat_natCast, gx, ln, w0, j1, gf, List.length_map, List.map_cons, grA_cons, grT_cons, grN_cons]
        refine aw_for (out.length + 1) 3 (fun j (_ : Unit) => ⟨[(8, .lit (.int .i64 (j : Int))), (7, .lit (.bool (decide (f ∈ (y :: out).take j)))), (6, .ptr 2 0), (4, .lit (.int .i64 (i : Int))), (1, .ptr 0 0), (3, .own 1 (out.length + 1))], ⟨[(0, [.vec (L.map encR) false]), (2, [.lit (.int .i64 f.1), .lit (.int .i64 f.2)])], [(1, ⟨(y :: out).map encP, 0, 2⟩)], 3⟩, 93⟩) (fun _ _ => True) (fun _ _ => rfl) () ?_ trivial (fun j _ h _ => ?_) (fun _ _ => ?_)
        · exact St.wk_slots (by simp [lk])
        · have c0 : ((j : Int) < ((out.length + 1 : Nat) : Int)) = True := by simp; omega
          obtain ⟨z, hz⟩ : ∃ z, (y :: out)[j]? = some z := ⟨_, List.getElem?_eq_getElem (by simpa using h)⟩
          have gz : (encP y :: out.map encP)[j]? = some [.lit (.int .i64 z.1), .lit (.int .i64 z.2)] := by rw [← List.map_cons, List.getElem?_map, hz]; rfl
          have gz' := getD_some (d := []) gz
          have j2 : (j : Int) < ((out.length + 1 : Nat) : Int) := by omega
          simp -implicitDefEqProofs only [awl, ne_eq, srcRows, awo, aggEq, eqF, litEq, andO, qwl, qwo, Go.Ab.qOp, lop, oneK, stepOp, pairO, pureOp, heapOp, entry, slotsOf, ev, evL, evP, evO, lk, up, St.put, St.drop, constAV, cellAV, cellsAV, plain, binV, nilCmp, intBin, strBin, guardBit, boolOf, fnOf, intOfAV, bound, resOf, retV, moved, rowOf, valAt, Kd.agg, AV.cells, splice, places, fillAV, rowsFill, Hp.none, ↓reduceIte, reduceCtorEq, Nat.reduceLT, Nat.reduceEqDiff, Nat.reduceAdd, Nat.reduceLeDiff, Nat.reducePow, Nat.reduceMul, Yzz, Xzz, Yzy, tyW, c0, decide_true]
          refine aw_quietN (n := 93) rfl (by decide) mixed ?_
          have tk : (y :: out).take (j + 1) = (y :: out).take j ++ [z] := by rw [List.take_add_one, hz]; rfl
          by_cases hfj : f ∈ (y :: out).take j
          · have e1 : decide (f ∈ (y :: out).take j) = true := decide_eq_true hfj
            have e2 : decide (f ∈ (y :: out).take (j + 1)) = true := decide_eq_true (by rw [tk]; exact List.mem_append_left _ hfj)
            have e2' : decide (f ∈ y :: out.take j) = true := e2
            simp -implicitDefEqProofs (disch := omega) only [awl, ne_eq, srcRows, awo, aggEq, eqF, litEq, andO, qwl, qwo, Go.Ab.qOp, lop, oneK, stepOp, pairO, pureOp, heapOp, entry, slotsOf, ev, evL, evP, evO, lk, up, St.put, St.drop, constAV, cellAV, cellsAV, plain, binV, nilCmp, intBin, strBin, guardBit, boolOf, fnOf, intOfAV, bound, resOf, retV, moved, rowOf, valAt, Kd.agg, AV.cells, splice, places, fillAV, rowsFill, Hp.none, ↓reduceIte, reduceCtorEq, Nat.reduceLT, Nat.reduceEqDiff, Nat.reduceAdd, Nat.reduceLeDiff, Nat.reducePow, Nat.reduceMul, Yzz, Xzz, Yzy, tyW, e1, e2, i64w]
            refine ⟨(), ?_⟩
            simp only [e2']
            exact St.wk.cp (St.wk_slots (by simp [lk]))
          · have e1 : decide (f ∈ (y :: out).take j) = false := decide_eq_false hfj
            have hlen : (out.map encP).length = out.length := List.length_map ..
            simp -implicitDefEqProofs (disch := omega) only [awl, ne_eq, srcRows, awo, aggEq, eqF, litEq, andO, qwl, qwo, Go.Ab.qOp, lop, oneK, stepOp, pairO, pureOp, heapOp, entry, slotsOf, ev, evL, evP, evO, lk, up, St.put, St.drop, constAV, cellAV, cellsAV, plain, binV, nilCmp, intBin, strBin, guardBit, boolOf, fnOf, intOfAV, bound, resOf, retV, moved, rowOf, valAt, Kd.agg, AV.cells, splice, places, fillAV, rowsFill, Hp.none, ↓reduceIte, reduceCtorEq, Nat.reduceLT, Nat.reduceEqDiff, Nat.reduceAdd, Nat.reduceLeDiff, Nat.reducePow, Nat.reduceMul, Yzz, Xzz, Yzy, tyW, e1, i64w, ncast, Int.toNat_natCast, j2, gz, gz', hlen]
            by_cases hz' : z = f
            · have e3 : (z.1 == f.1 && (z.2 == f.2 && true)) = true := by rw [hz']; simp
              have e2 : decide (f ∈ (y :: out).take (j + 1)) = true := decide_eq_true (by rw [tk, hz']; simp)
              have e2' : decide (f ∈ y :: out.take j) = true := e2
              simp -implicitDefEqProofs (disch := omega) only [awl, ne_eq, srcRows, awo, aggEq, eqF, litEq, andO, qwl, qwo, Go.Ab.qOp, lop, oneK, stepOp, pairO, pureOp, heapOp, entry, slotsOf, ev, evL, evP, evO, lk, up, St.put, St.drop, constAV, cellAV, cellsAV, plain, binV, nilCmp, intBin, strBin, guardBit, boolOf, fnOf, intOfAV, bound, resOf, retV, moved, rowOf, valAt, Kd.agg, AV.cells, splice, places, fillAV, rowsFill, Hp.none, ↓reduceIte, reduceCtorEq, Nat.reduceLT, Nat.reduceEqDiff, Nat.reduceAdd, Nat.reduceLeDiff, Nat.reducePow, Nat.reduceMul, Yzz, Xzz, Yzy, tyW, e2, e3, i64w] 
              refine ⟨(), ?_⟩
              simp only [e2']
              exact St.wk.cp (St.wk_slots (by simp [lk]))
            · have e3 : (z.1 == f.1 && (z.2 == f.2 && true)) = false := neq_b hz'
              have e2 : decide (f ∈ (y :: out).take (j + 1)) = false := decide_eq_false (by rw [tk, List.mem_append, List.mem_singleton]; exact fun q => q.elim hfj fun q => hz' q.symm)
              have e2' : decide (f ∈ y :: out.take j) = false := e2
              simp -implicitDefEqProofs (disch := omega) only [awl, ne_eq, srcRows, awo, aggEq, eqF, litEq, andO, qwl, qwo, Go.Ab.qOp, lop, oneK, stepOp, pairO, pureOp, heapOp, entry, slotsOf, ev, evL, evP, evO, lk, up, St.put, St.drop, constAV, cellAV, cellsAV, plain, binV, nilCmp, intBin, strBin, guardBit, boolOf, fnOf, intOfAV, bound, resOf, retV, moved, rowOf, valAt, Kd.agg, AV.cells, splice, places, fillAV, rowsFill, Hp.none, ↓reduceIte, reduceCtorEq, Nat.reduceLT, Nat.reduceEqDiff, Nat.reduceAdd, Nat.reduceLeDiff, Nat.reducePow, Nat.reduceMul, Yzz, Xzz, Yzy, tyW, e2, e3, i64w]
              refine ⟨(), ?_⟩
              simp only [e2']
              exact St.wk.cp (St.wk_slots (by simp [lk]))
        have c0 : (((out.length + 1 : Nat) : Int) < ((out.length + 1 : Nat) : Int)) = False := by simp
        have tl : (y :: out).take (out.length + 1) = y :: out := List.take_length (l := y :: out)
        simp -implicitDefEqProofs only [awl, ne_eq, srcRows, awo, aggEq, eqF, litEq, andO, qwl, qwo, Go.Ab.qOp, lop, oneK, stepOp, pairO, pureOp, heapOp, entry, slotsOf, ev, evL, evP, evO, lk, up, St.put, St.drop, constAV, cellAV, cellsAV, plain, binV, nilCmp, intBin, strBin, guardBit, boolOf, fnOf, intOfAV, bound, resOf, retV, moved, rowOf, valAt, Kd.agg, AV.cells, splice, places, fillAV, rowsFill, Hp.none, ↓reduceIte, reduceCtorEq, Nat.reduceLT, Nat.reduceEqDiff, Nat.reduceAdd, Nat.reduceLeDiff, Nat.reducePow, Nat.reduceMul, Yzz, Xzz, Yzy, tyW, tl, c0, decide_false]
        by_cases hfo : f ∈ y :: out
        · have e1 : decide (f ∈ y :: out) = true := decide_eq_true hfo
          rw [if_pos hfo] at hN
          simp -implicitDefEqProofs (disch := omega) only [awl, ne_eq, srcRows, awo, aggEq, eqF, litEq, andO, qwl, qwo, Go.Ab.qOp, lop, oneK, stepOp, pairO, pureOp, heapOp, entry, slotsOf, ev, evL, evP, evO, lk, up, St.put, St.drop, constAV, cellAV, cellsAV, plain, binV, nilCmp, intBin, strBin, guardBit, boolOf, fnOf, intOfAV, bound, resOf, retV, moved, rowOf, valAt, Kd.agg, AV.cells, splice, places, fillAV, rowsFill, Hp.none, ↓reduceIte, reduceCtorEq, Nat.reduceLT, Nat.reduceEqDiff, Nat.reduceAdd, Nat.reduceLeDiff, Nat.reducePow, Nat.reduceMul, Yzz, Xzz, Yzy, tyW, e1, i64w]
          refine ⟨y :: out, ⟨hN.symm, by omega, hsr⟩, ?_⟩
          exact tp_back (t := 1) (by simp [lk]) (by simp [lk]) (by simp [lk]) (by simp [lk]) (by simp [lk]) (by simp) (by decide) (by show 1 < 3; decide) rfl
        have e1 : decide (f ∈ y :: out) = false := decide_eq_false hfo
        rw [if_neg hfo] at hN
        have hfit : fits (out.length + 1 + 1) 16 := fits_of' (by omega) (by omega)
        have hlm : (out.map encP).length = out.length := List.length_map ..
        have hw9 : IntKind.i64.wrap (((out.length + 1 + 1 : Nat) : Int) - 1) = ((out.length + 1 : Nat) : Int) := by rw [i64w (by omega) (by omega)]; omega
        simp -implicitDefEqProofs (disch := omega) only [awl, ne_eq, srcRows, awo, aggEq, eqF, litEq, andO, qwl, qwo, Go.Ab.qOp, lop, oneK, stepOp, pairO, pureOp, heapOp, entry, slotsOf, ev, evL, evP, evO, lk, up, St.put, St.drop, constAV, cellAV, cellsAV, plain, binV, nilCmp, intBin, strBin, guardBit, boolOf, fnOf, intOfAV, bound, resOf, retV, moved, rowOf, valAt, Kd.agg, AV.cells, splice, places, fillAV, rowsFill, Hp.none, ↓reduceIte, reduceCtorEq, Nat.reduceLT, Nat.reduceEqDiff, Nat.reduceAdd, Nat.reduceLeDiff, Nat.reducePow, Nat.reduceMul, Yzz, Xzz, Yzy, tyW, e1, i64w, hfit, List.mem_singleton, forall_eq, List.not_mem_nil, false_imp_iff, implies_true, hlm, hw9]
        refine aw_for (out.length + 1) 3 (fun j (_ : Unit) => ⟨[(9, .lit (.int .i64 ((out.length + 1 - j : Nat) : Int))), (4, .lit (.int .i64 (i : Int))), (1, .ptr 0 0), (3, .own 1 (out.length + 1 + 1))], ⟨[(0, [.vec (L.map encR) false])], [(1, ⟨((y :: out).take (out.length + 1 - j) ++ f :: (y :: out).drop (out.length + 1 - j)).map encP, 0, 2⟩)], 3⟩, 93⟩) (fun j _ => ∀ z ∈ (y :: out).drop (out.length + 1 - j), cmpP f z < 0) (fun _ _ => rfl) () ?_ ?_ (fun j _ hj hbig => ?_) (fun _ hbig => ?_)
        · refine St.wk_slots1 ?_ ?_ ?_
          · simp [lk]
          · simp [lk]
          · have : (y :: out).take (out.length + 1 - 0) ++ f :: (y :: out).drop (out.length + 1 - 0) = y :: (out ++ [f]) := by rw [Nat.sub_zero, tl, show (y :: out).drop (out.length + 1) = [] from List.drop_length (l := y :: out)]; rfl
            rw [this]
            simp [lk, encP]
        · rw [Nat.sub_zero, show (y :: out).drop (out.length + 1) = [] from List.drop_length (l := y :: out)]; simp
        · obtain ⟨k, hk⟩ : ∃ k, out.length + 1 - j = k + 1 := ⟨out.length - j, by omega⟩
          have hk' : out.length + 1 - (j + 1) = k := by omega
          rw [hk] at hbig
          simp only [hk, hk']
          obtain ⟨P, x, D, hB, hPl⟩ : ∃ P x D, y :: out = P ++ x :: D ∧ P.length = k := by
            have hkl : k < (y :: out).length := by simp only [List.length_cons]; omega
            refine ⟨(y :: out).take k, (y :: out)[k], (y :: out).drop (k + 1), ?_, by rw [List.length_take]; omega⟩
            rw [← List.drop_eq_getElem_cons hkl, List.take_append_drop]
          have hPx : P ++ x :: D = (P ++ [x]) ++ D := by simp
          have t1 : (P ++ x :: D).take (k + 1) = P ++ [x] := by rw [hPx]; exact List.take_left' (by simp [hPl])
          have t2 : (P ++ x :: D).drop (k + 1) = D := by rw [hPx]; exact List.drop_left' (by simp [hPl])
          have t3 : (P ++ x :: D).take k = P := by rw [← hPl]; simp
          have t4 : (P ++ x :: D).drop k = x :: D := by rw [← hPl]; simp
          have hlB : out.length + 1 = k + 1 + D.length := by have := congrArg List.length hB; simp at this; omega
          rw [hB] at hbig hN hsr ⊢
          rw [t2] at hbig
          rw [t1, t2, t3, t4]
          have kc : ((0 : Int) < ((k + 1 : Nat) : Int)) = True := eq_true (by omega)
          have w1 : IntKind.i64.wrap (((k + 1 : Nat) : Int) - 1) = (k : Int) := by rw [i64w (by omega) (by omega)]; omega
          have mlen : (((P ++ [x]) ++ f :: D).map encP).length = out.length + 1 + 1 := by simp; omega
          have m1 : (((P ++ [x]) ++ f :: D).map encP)[k + 1]? = some [.lit (.int .i64 f.1), .lit (.int .i64 f.2)] := by rw [List.getElem?_map, ← hPl]; simp [encP]
          have m2 : (((P ++ [x]) ++ f :: D).map encP)[k]? = some [.lit (.int .i64 x.1), .lit (.int .i64 x.2)] := by rw [List.getElem?_map, ← hPl]; simp [encP]
          have m1' := getD_some (d := []) m1
          have m2' := getD_some (d := []) m2
          have k1 : ((k + 1 : Nat) : Int) < ((out.length + 1 + 1 : Nat) : Int) := by omega
          have k2 : ((k : Nat) : Int) < ((out.length + 1 + 1 : Nat) : Int) := by omega
          simp -implicitDefEqProofs only [awl, ne_eq, srcRows, awo, aggEq, eqF, litEq, andO, qwl, qwo, Go.Ab.qOp, lop, oneK, stepOp, pairO, pureOp, heapOp, entry, slotsOf, ev, evL, evP, evO, lk, up, St.put, St.drop, constAV, cellAV, cellsAV, plain, binV, nilCmp, intBin, strBin, guardBit, boolOf, fnOf, intOfAV, bound, resOf, retV, moved, rowOf, valAt, Kd.agg, AV.cells, splice, places, fillAV, rowsFill, Hp.none, ↓reduceIte, reduceCtorEq, Nat.reduceLT, Nat.reduceEqDiff, Nat.reduceAdd, Nat.reduceLeDiff, Nat.reducePow, Nat.reduceMul, Yzz, Xzz, Yzy, tyW]
          refine aw_quietN (n := 93) rfl (by decide) mixed ?_
          simp -implicitDefEqProofs only [awl, ne_eq, srcRows, awo, aggEq, eqF, litEq, andO, qwl, qwo, Go.Ab.qOp, lop, oneK, stepOp, pairO, pureOp, heapOp, entry, slotsOf, ev, evL, evP, evO, lk, up, St.put, St.drop, constAV, cellAV, cellsAV, plain, binV, nilCmp, intBin, strBin, guardBit, boolOf, fnOf, intOfAV, bound, resOf, retV, moved, rowOf, valAt, Kd.agg, AV.cells, splice, places, fillAV, rowsFill, Hp.none, ↓reduceIte, reduceCtorEq, Nat.reduceLT, Nat.reduceEqDiff, Nat.reduceAdd, Nat.reduceLeDiff, Nat.reducePow, Nat.reduceMul, Yzz, Xzz, Yzy, tyW, kc, decide_true, w1, ncast, Int.toNat_natCast, k1, k2, m1, m2, m1', m2', mlen]
          refine CallQ_pure call44 (Frames_spec f x) (allc (.agg (pure_encP f)) (allc (.agg (pure_encP x)) alln)) (.lit _) ?_
          by_cases hlt : cmpP f x < 0
          · have hc : (cmpP f x < 0) = True := eq_true hlt
            have s1 : (((P ++ [x]) ++ f :: D).map encP).set (k + 1) [.lit (.int .i64 x.1), .lit (.int .i64 x.2)] = (P ++ x :: x :: D).map encP := by
              rw [← hPl]; simp [encP]
            have s2 : ((P ++ x :: x :: D).map encP).set k [.lit (.int .i64 f.1), .lit (.int .i64 f.2)] = (P ++ f :: x :: D).map encP := by
              rw [← hPl]; simp [encP]
            have m3 : ((P ++ x :: x :: D).map encP)[k]? = some [.lit (.int .i64 x.1), .lit (.int .i64 x.2)] := by rw [List.getElem?_map, ← hPl]; simp [encP]
            have mlen2 : ((P ++ x :: x :: D).map encP).length = out.length + 1 + 1 := by simp; omega
            simp -implicitDefEqProofs (disch := omega) only [awl, ne_eq, srcRows, awo, aggEq, eqF, litEq, andO, qwl, qwo, Go.Ab.qOp, lop, oneK, stepOp, pairO, pureOp, heapOp, entry, slotsOf, ev, evL, evP, evO, lk, up, St.put, St.drop, constAV, cellAV, cellsAV, plain, binV, nilCmp, intBin, strBin, guardBit, boolOf, fnOf, intOfAV, bound, resOf, retV, moved, rowOf, valAt, Kd.agg, AV.cells, splice, places, fillAV, rowsFill, Hp.none, ↓reduceIte, reduceCtorEq, Nat.reduceLT, Nat.reduceEqDiff, Nat.reduceAdd, Nat.reduceLeDiff, Nat.reducePow, Nat.reduceMul, Yzz, Xzz, Yzy, tyW, hc, decide_true, ncast, Int.toNat_natCast, k1, k2, m1, m1', m2, m2', mlen, mlen2, w1, s1, s2, m3, Nat.zero_le, if_true]
            refine ⟨(), ?_, ?_⟩
            · intro z hz
              rcases List.mem_cons.1 hz with rfl | hz
              · exact hlt
              · exact hbig z hz
            · exact cp_drop' (Nat.le_refl _) (by show 3 ≤ 4; decide) rfl (allc ⟨by simp [lk], .pure (.lit _)⟩ (allc ⟨by simp [lk], .pure (.lit _)⟩ (allc ⟨by simp [lk], .ptr (by show 0 < 3; decide) rfl⟩ (allc ⟨by simp [lk], .own (by show 1 < 3; decide) rfl⟩ alln))))
                (allc ⟨by show 0 < 3; decide, by simp [lk], .pure (allc (.vec (pure_rows pureR _)) alln)⟩ alln) (allc ⟨by show 1 < 3; decide, by simp [lk], .pure (pure_rows pure_encP _)⟩ alln)
          · have hc : (cmpP f x < 0) = False := eq_false hlt
            simp -implicitDefEqProofs (disch := omega) only [awl, ne_eq, srcRows, awo, aggEq, eqF, litEq, andO, qwl, qwo, Go.Ab.qOp, lop, oneK, stepOp, pairO, pureOp, heapOp, entry, slotsOf, ev, evL, evP, evO, lk, up, St.put, St.drop, constAV, cellAV, cellsAV, plain, binV, nilCmp, intBin, strBin, guardBit, boolOf, fnOf, intOfAV, bound, resOf, retV, moved, rowOf, valAt, Kd.agg, AV.cells, splice, places, fillAV, rowsFill, Hp.none, ↓reduceIte, reduceCtorEq, Nat.reduceLT, Nat.reduceEqDiff, Nat.reduceAdd, Nat.reduceLeDiff, Nat.reducePow, Nat.reduceMul, Yzz, Xzz, Yzy, tyW, hc, decide_false, i64w]
            have hsm : ∀ z ∈ P ++ [x], ¬ cmpP f z < 0 := by
              intro z hz
              rcases List.mem_append.1 hz with hz | hz
              · intro q
                rw [List.pairwise_append] at hsr
                exact hlt (cmpP_trans q (hsr.2.2 z hz x (by simp)))
              · rcases List.mem_singleton.1 hz with rfl; exact hlt
            have hin := insP_at (f := f) hsm hbig
            rw [← hPx] at hin
            rw [hin] at hN
            rw [hN] at hO
            refine ⟨_, ⟨hN.symm, hO.2, hO.1⟩, ?_⟩
            exact tp_back (t := 1) (by simp [lk]) (by simp [lk]) (by simp [lk]; omega) (by simp [lk]) (by simp [lk]) (by simp) (by decide) (by show 1 < 3; decide) rfl
        · rw [show out.length + 1 - (out.length + 1) = 0 by omega] at hbig ⊢
          rw [List.drop_zero] at hbig
          rw [List.drop_zero, List.take_zero, List.nil_append]
          have c0 : ((0 : Int) < 0) = False := by simp
          simp -implicitDefEqProofs only [awl, ne_eq, srcRows, awo, aggEq, eqF, litEq, andO, qwl, qwo, Go.Ab.qOp, lop, oneK, stepOp, pairO, pureOp, heapOp, entry, slotsOf, ev, evL, evP, evO, lk, up, St.put, St.drop, constAV, cellAV, cellsAV, plain, binV, nilCmp, intBin, strBin, guardBit, boolOf, fnOf, intOfAV, bound, resOf, retV, moved, rowOf, valAt, Kd.agg, AV.cells, splice, places, fillAV, rowsFill, Hp.none, ↓reduceIte, reduceCtorEq, Nat.reduceLT, Nat.reduceEqDiff, Nat.reduceAdd, Nat.reduceLeDiff, Nat.reducePow, Nat.reduceMul, Yzz, Xzz, Yzy, tyW, c0, decide_false, Int.natCast_zero]
          refine aw_quietN (n := 93) rfl (by decide) mixed ?_
          simp -implicitDefEqProofs (disch := omega) only [awl, ne_eq, srcRows, awo, aggEq, eqF, litEq, andO, qwl, qwo, Go.Ab.qOp, lop, oneK, stepOp, pairO, pureOp, heapOp, entry, slotsOf, ev, evL, evP, evO, lk, up, St.put, St.drop, constAV, cellAV, cellsAV, plain, binV, nilCmp, intBin, strBin, guardBit, boolOf, fnOf, intOfAV, bound, resOf, retV, moved, rowOf, valAt, Kd.agg, AV.cells, splice, places, fillAV, rowsFill, Hp.none, ↓reduceIte, reduceCtorEq, Nat.reduceLT, Nat.reduceEqDiff, Nat.reduceAdd, Nat.reduceLeDiff, Nat.reducePow, Nat.reduceMul, Yzz, Xzz, Yzy, tyW, c0, decide_false, i64w]
          have hin := insP_at (f := f) (P := []) (D := y :: out) (by simp) hbig
          rw [List.nil_append] at hin
          rw [hin] at hN
          refine ⟨f :: y :: out, ⟨hN.symm, by simp only [List.length_cons]; omega, by rw [hN] at hO; exact hO.1⟩, ?_⟩
          exact tp_back (t := 1) (by simp [lk]) (by simp [lk]) (by simp [lk]) (by simp [lk]) (by simp [lk]) (by simp) (by decide) (by show 1 < 3; decide) rfl
  · have i1 : ¬ (L.length : Int) < (L.length : Int) := by omega
    simp -implicitDefEqProofs only [awl, ne_eq, srcRows, awo, aggEq, eqF, litEq, andO, qwl, qwo, Go.Ab.qOp, lop, oneK, stepOp, pairO, pureOp, heapOp, entry, slotsOf, ev, evL, evP, evO, lk, up, St.put, St.drop, constAV, cellAV, cellsAV, plain, binV, nilCmp, intBin, strBin, guardBit, boolOf, fnOf, intOfAV, bound, resOf, retV, moved, rowOf, valAt, Kd.agg, AV.cells, splice, places, fillAV, rowsFill, Hp.none, ↓reduceIte, reduceCtorEq, Nat.reduceLT, Nat.reduceEqDiff, Nat.reduceAdd, Nat.reduceLeDiff, Nat.reducePow, Nat.reduceMul, Yzz, Xzz, Yzy, tyW, tpS, i1, decide_false, List.length_map]
    rw [List.take_length] at hI
    rw [← hI]
    exact expo_gr2 (pure_rows pure_encP _) (fun h => lk_grT' h)
end Go.Proofs.Ytfnmdmadaljjkaa
end

section
namespace Go.Proofs.Ytfnmdmadaljjkaa
open Go Go.Ab
set_option linter.unusedSimpArgs false
set_option linter.unusedVariables false
set_option maxRecDepth 20000
set_option maxHeartbeats 4000000

theorem made_ok (l : List Ac) : (∀ p ∈ madeL 0 made0 l, PrOk 30 p) ∧ 2 ≤ (madeL 0 made0 l).length ∧ (madeL 0 made0 l).length ≤ 32 := madeL_ok l 0 made0 (by decide) rfl made0_ok
theorem pcall_args {P : Program} {f : FuncId} {av bs : List AV} {r : AV} (h : PCall P f bs r) (k : ∀ g, CvL g g av bs) : PCall P f av r := fun m w vals h1 h2 => h m w vals h1 (k _ _ h2)
theorem bnd_top {n : Nat} {o : Option Tr} (h : BndO n o) : (topsO o).length ≤ n := by
  cases o with
  | none => simp [topsO]
  | some t => obtain ⟨b, ws⟩ := t; exact (h _ rfl).len
theorem rel_cnt {p : Pr} (h : Rel p) (w : WfO p.1) (hl : p.2.length ≤ 300) : cntO p.1 = (p.2.length : Int) := by
  rw [cntO_len, rel_len h w]; omega
theorem rel_all {p : Pr} (h : Rel p) (w : WfO p.1) (hl : p.2.length ≤ 300) (most : Int) : allR p.1 most = if (p.2.length : Int) > min (max most 0) 1000 then .tup [.vec [] false, .lit (.int .i64 3)] else .tup [.vec (p.2.map encR) false, .lit (.int .i64 0)] := by
  unfold allR
  rw [rel_cnt h w hl, rel_ord h w]
def telS (rows : List Pr) (s : Sk) (most : Int) (i : Nat) (_ : Unit) : St := ⟨[(20, .lit (.int .i64 (i : Int))), (19, .lit (.int .i64 (rows.length : Int))), (18, .vec (rows.map encPr) false), (7, .vec (rows.map encPr) false), (1, .vec (s.map encP) false), (2, .lit (.int .i64 most))], .none, 131⟩
theorem tells_spec (l : List Ac) (s : Sk) (most : Int) (hs : s.length ≤ 9223372036854775807) : KCall Try.prog 3 [.vec (l.map encAc) false, .vec (s.map encP) false, .lit (.int .i64 most)] (.lit (.bool true)) := by
  refine KCall_of (SCall_intro Try.func3 rfl Try.ntmps3 (rs := [.tmp 6]) rfl (by simp) ?_)
  simp -implicitDefEqProofs only [awl, ne_eq, srcRows, awo, aggEq, eqF, litEq, andO, qwl, qwo, Go.Ab.qOp, lop, oneK, stepOp, pairO, pureOp, heapOp, entry, slotsOf, ev, evL, evP, evO, lk, up, St.put, St.drop, constAV, cellAV, cellsAV, plain, binV, nilCmp, intBin, strBin, guardBit, boolOf, fnOf, intOfAV, bound, resOf, retV, moved, rowOf, valAt, Kd.agg, AV.cells, splice, places, fillAV, rowsFill, Hp.none, ↓reduceIte, reduceCtorEq, Nat.reduceLT, Nat.reduceEqDiff, Nat.reduceAdd, Nat.reduceLeDiff, Nat.reducePow, Nat.reduceMul, Yzz, Xzz, Yzy, tyW]
  obtain ⟨ok, n2, n32⟩ := made_ok l
  have rel := rel_made l 0 made0 (by decide) made0_ok (allc rel_none (allc rel_empty alln))
  have hmade := made_spec l
  generalize madeL 0 made0 l = rows at ok n2 n32 hmade rel
  refine CallK_k call6 hmade (allc (.of_pure (.vec (pure_rows pure_encAc l))) alln) (.vec (fun x hx c hc => by obtain ⟨y, _, rfl⟩ := List.mem_map.1 hx; exact gp_encPr y c hc)) ?_
  simp -implicitDefEqProofs only [awl, ne_eq, srcRows, awo, aggEq, eqF, litEq, andO, qwl, qwo, Go.Ab.qOp, lop, oneK, stepOp, pairO, pureOp, heapOp, entry, slotsOf, ev, evL, evP, evO, lk, up, St.put, St.drop, constAV, cellAV, cellsAV, plain, binV, nilCmp, intBin, strBin, guardBit, boolOf, fnOf, intOfAV, bound, resOf, retV, moved, rowOf, valAt, Kd.agg, AV.cells, splice, places, fillAV, rowsFill, Hp.none, ↓reduceIte, reduceCtorEq, Nat.reduceLT, Nat.reduceEqDiff, Nat.reduceAdd, Nat.reduceLeDiff, Nat.reducePow, Nat.reduceMul, Yzz, Xzz, Yzy, tyW]
  rw [List.length_map]
  refine aw_forE rows.length 0 (telS rows s most) (fun _ _ => True) (Nat.le_refl _) () (St.wk.cp (St.wk_slots (by simp [lk]))) trivial (fun i _ hlt _ => ?_) (fun _ _ => ?_)
  · have i1 : (i : Int) < (rows.length : Int) := by omega
    have ncast : ∀ n : Nat, (0 : Int) ≤ (n : Int) := Int.natCast_nonneg
    obtain ⟨p, hp⟩ : ∃ p, rows[i]? = some p := ⟨_, List.getElem?_eq_getElem hlt⟩
    have hpm := List.mem_of_getElem? hp
    have gp := map_getD encPr hp
    have ep : encPr p = [encO p.1, .vec (p.2.map encR) false] := rfl
    rw [ep] at gp
    have wp := (ok p hpm).wf
    have np : BndO 536870912 p.1 := (ok p hpm).bd.mono (by decide)
    have lp := (ok p hpm).len
    have rp := rel p hpm
    have sp : ∀ x ∈ p.2, x.length ≤ 38 := (ok p hpm).sks
    have hall := All_spec 536870912 (by decide) p.1 wp np most (fun x hx => by have := sp x ((rel_perm rp wp).mem_iff.2 hx); omega)
    rw [rel_all rp wp lp most] at hall
    have G := gp_encB
    simp -implicitDefEqProofs only [awl, ne_eq, srcRows, awo, aggEq, eqF, litEq, andO, qwl, qwo, Go.Ab.qOp, lop, oneK, stepOp, pairO, pureOp, heapOp, entry, slotsOf, ev, evL, evP, evO, lk, up, St.put, St.drop, constAV, cellAV, cellsAV, plain, binV, nilCmp, intBin, strBin, guardBit, boolOf, fnOf, intOfAV, bound, resOf, retV, moved, rowOf, valAt, Kd.agg, AV.cells, splice, places, fillAV, rowsFill, Hp.none, ↓reduceIte, reduceCtorEq, Nat.reduceLT, Nat.reduceEqDiff, Nat.reduceAdd, Nat.reduceLeDiff, Nat.reducePow, Nat.reduceMul, Yzz, Xzz, Yzy, tyW, telS, i1, decide_true, ncast, Int.toNat_natCast, gp, List.length_map]
    have gP : GP (.vec (rows.map encPr) false) := .vec (fun x hx c hc => by obtain ⟨y, _, rfl⟩ := List.mem_map.1 hx; exact gp_encPr y c hc)
    have gS : GP (.vec (s.map encP) false) := .of_pure (.vec (pure_rows pure_encP _))
    have gR : ∀ {X : List Sk}, GP (.vec (X.map encR) false) := fun {X} => .of_pure (.vec (pure_rows pureR _))
    have hsize := Size_spec 536870912 (by decide) p.1 np
    rw [rel_cnt rp wp lp] at hsize
    have hhas := Has_any 536870912 (by decide) p.1 wp np s hs false
    rw [rel_has rp s] at hhas
    have hbare := Bare_spec p.1
    rw [rel_bare rp] at hbare
    have rhas := Has_r p.2 s hs (by omega) (fun x hx => by have := sp x hx; omega)
    have rhas0 := Has_r p.2 [] (by simp) (by omega) (fun x hx => by have := sp x hx; omega)
    replace rhas0 : PCall Try.prog 11 [.agg [.vec (p.2.map encR) false], .vec [] true] (.lit (.bool (decide ([] ∈ p.2)))) := pcall_args rhas0 fun g => cvL_cons (cv_refl (.refl g) _) (cvL_cons (cv_full (.refl g) _ _) cvL_nil)
    have htops := Tops_spec 536870912 (by decide) p.1 np
    have rtops := Tops_r p.2 (by omega) (fun x hx => by have := sp x hx; omega)
    have etops : (topsO p.1).map pairW = topsL p.2 := srtP_ext (tops_srt wp) (topsL_ok p.2).1 fun f => (rel_tops rp wp f).trans ((topsL_ok p.2).2 f).symm
    rw [enc2_pair, etops] at htops
    have ltops : (topsL p.2).length ≤ 2000000000 := by
      rw [← etops, List.length_map]
      exact Nat.le_trans (bnd_top np) (by decide)
    have fr := frames_spec (topsL p.2) (topsL p.2) false false ltops ltops
    have efr : decide (topsL p.2 = topsL p.2) = true := decide_eq_true rfl
    rw [efr] at fr
    have gT : GP (.vec ((topsL p.2).map encP) false) := .of_pure (.vec (pure_rows pure_encP _))
    have pT : Ab.Pure (.vec ((topsL p.2).map encP) false) := .vec (pure_rows pure_encP _)
    have rw1 := rows_spec p.2 p.2 false (by omega) (fun x hx => by have := sp x hx; omega) (fun x hx => by have := sp x hx; omega)
    have erw : decide (p.2 = p.2) = true := decide_eq_true rfl
    rw [erw] at rw1
    have pB : Ab.Pure (encBr p.2) := pureBr p.2
    have em : (if (1000 : Int) < (if 0 > most then 0 else most) then 1000 else (if 0 > most then 0 else most)) = min (max most 0) 1000 := by omega
    by_cases hlong : (p.2.length : Int) > min (max most 0) 1000
    · rw [if_pos hlong] at hall
      have gr : GP (.tup [.vec [] false, .lit (.int .i64 3)]) := .of_pure (.tup (allc (.vec (by simp)) (allc (.lit _) alln)))
      refine CallK_k call7 hall (allc (G _) (allc (.lit _) alln)) gr ?_
      have hl1 : ((p.2.length : Int) > min (max most 0) 1000) = True := eq_true hlong
      have b1 : ((3 : Int) == 3) = true := rfl
      have b2 : (true == true) = true := rfl
      have c0 : ((0 : Int) > 0) = False := by simp
      simp -implicitDefEqProofs only [awl, ne_eq, srcRows, awo, aggEq, eqF, litEq, andO, qwl, qwo, Go.Ab.qOp, lop, oneK, stepOp, pairO, pureOp, heapOp, entry, slotsOf, ev, evL, evP, evO, lk, up, St.put, St.drop, constAV, cellAV, cellsAV, plain, binV, nilCmp, intBin, strBin, guardBit, boolOf, fnOf, intOfAV, bound, resOf, retV, moved, rowOf, valAt, Kd.agg, AV.cells, splice, places, fillAV, rowsFill, Hp.none, ↓reduceIte, reduceCtorEq, Nat.reduceLT, Nat.reduceEqDiff, Nat.reduceAdd, Nat.reduceLeDiff, Nat.reducePow, Nat.reduceMul, Yzz, Xzz, Yzy, tyW, List.length_map, em, hl1, decide_true, b1, b2, bne, c0, decide_false, Int.natCast_zero]
      refine aw_wk (σ' := ⟨[(9, .ptr 0 0), (20, .lit (.int .i64 (i : Int))), (19, .lit (.int .i64 (rows.length : Int))), (18, .vec (rows.map encPr) false), (7, .vec (rows.map encPr) false), (1, .vec (s.map encP) false), (2, .lit (.int .i64 most))], ⟨[(0, [encO p.1, .vec (p.2.map encR) false])], [], 1⟩, 131⟩) (St.wk_slots (by simp [lk])) ?_
      refine aw_quietN (n := 131) rfl (by decide) mixed ?_
      simp -implicitDefEqProofs only [awl, ne_eq, srcRows, awo, aggEq, eqF, litEq, andO, qwl, qwo, Go.Ab.qOp, lop, oneK, stepOp, pairO, pureOp, heapOp, entry, slotsOf, ev, evL, evP, evO, lk, up, St.put, St.drop, constAV, cellAV, cellsAV, plain, binV, nilCmp, intBin, strBin, guardBit, boolOf, fnOf, intOfAV, bound, resOf, retV, moved, rowOf, valAt, Kd.agg, AV.cells, splice, places, fillAV, rowsFill, Hp.none, ↓reduceIte, reduceCtorEq, Nat.reduceLT, Nat.reduceEqDiff, Nat.reduceAdd, Nat.reduceLeDiff, Nat.reducePow, Nat.reduceMul, Yzz, Xzz, Yzy, tyW]
      refine CallQ_k call9 hsize (allc (G _) alln) (.lit _) ?_
      have be0 : ((p.2.length : Int) == (p.2.length : Int)) = true := beq_self_eq_true _
      simp -implicitDefEqProofs only [awl, ne_eq, srcRows, awo, aggEq, eqF, litEq, andO, qwl, qwo, Go.Ab.qOp, lop, oneK, stepOp, pairO, pureOp, heapOp, entry, slotsOf, ev, evL, evP, evO, lk, up, St.put, St.drop, constAV, cellAV, cellsAV, plain, binV, nilCmp, intBin, strBin, guardBit, boolOf, fnOf, intOfAV, bound, resOf, retV, moved, rowOf, valAt, Kd.agg, AV.cells, splice, places, fillAV, rowsFill, Hp.none, ↓reduceIte, reduceCtorEq, Nat.reduceLT, Nat.reduceEqDiff, Nat.reduceAdd, Nat.reduceLeDiff, Nat.reducePow, Nat.reduceMul, Yzz, Xzz, Yzy, tyW, bne, be0, List.length_map]
      refine CallQ_k call10 hhas (allc (G _) (allc gS alln)) (.lit _) ?_
      simp -implicitDefEqProofs only [awl, ne_eq, srcRows, awo, aggEq, eqF, litEq, andO, qwl, qwo, Go.Ab.qOp, lop, oneK, stepOp, pairO, pureOp, heapOp, entry, slotsOf, ev, evL, evP, evO, lk, up, St.put, St.drop, constAV, cellAV, cellsAV, plain, binV, nilCmp, intBin, strBin, guardBit, boolOf, fnOf, intOfAV, bound, resOf, retV, moved, rowOf, valAt, Kd.agg, AV.cells, splice, places, fillAV, rowsFill, Hp.none, ↓reduceIte, reduceCtorEq, Nat.reduceLT, Nat.reduceEqDiff, Nat.reduceAdd, Nat.reduceLeDiff, Nat.reducePow, Nat.reduceMul, Yzz, Xzz, Yzy, tyW, bne]
      refine CallQ_pure call11 rhas (allc pB (allc (pureS s) alln)) (.lit _) ?_
      have be1 : (decide (s ∈ p.2) == decide (s ∈ p.2)) = true := beq_self_eq_true _
      simp -implicitDefEqProofs only [awl, ne_eq, srcRows, awo, aggEq, eqF, litEq, andO, qwl, qwo, Go.Ab.qOp, lop, oneK, stepOp, pairO, pureOp, heapOp, entry, slotsOf, ev, evL, evP, evO, lk, up, St.put, St.drop, constAV, cellAV, cellsAV, plain, binV, nilCmp, intBin, strBin, guardBit, boolOf, fnOf, intOfAV, bound, resOf, retV, moved, rowOf, valAt, Kd.agg, AV.cells, splice, places, fillAV, rowsFill, Hp.none, ↓reduceIte, reduceCtorEq, Nat.reduceLT, Nat.reduceEqDiff, Nat.reduceAdd, Nat.reduceLeDiff, Nat.reducePow, Nat.reduceMul, Yzz, Xzz, Yzy, tyW, bne, be1]
      refine CallQ_k call12 hbare (allc (G _) alln) (.lit _) ?_
      simp -implicitDefEqProofs only [awl, ne_eq, srcRows, awo, aggEq, eqF, litEq, andO, qwl, qwo, Go.Ab.qOp, lop, oneK, stepOp, pairO, pureOp, heapOp, entry, slotsOf, ev, evL, evP, evO, lk, up, St.put, St.drop, constAV, cellAV, cellsAV, plain, binV, nilCmp, intBin, strBin, guardBit, boolOf, fnOf, intOfAV, bound, resOf, retV, moved, rowOf, valAt, Kd.agg, AV.cells, splice, places, fillAV, rowsFill, Hp.none, ↓reduceIte, reduceCtorEq, Nat.reduceLT, Nat.reduceEqDiff, Nat.reduceAdd, Nat.reduceLeDiff, Nat.reducePow, Nat.reduceMul, Yzz, Xzz, Yzy, tyW, bne]
      refine CallQ_pure call11 rhas0 (allc pB (allc (.vec (by simp)) alln)) (.lit _) ?_
      have be2 : (decide ([] ∈ p.2) == decide ([] ∈ p.2)) = true := beq_self_eq_true _
      simp -implicitDefEqProofs only [awl, ne_eq, srcRows, awo, aggEq, eqF, litEq, andO, qwl, qwo, Go.Ab.qOp, lop, oneK, stepOp, pairO, pureOp, heapOp, entry, slotsOf, ev, evL, evP, evO, lk, up, St.put, St.drop, constAV, cellAV, cellsAV, plain, binV, nilCmp, intBin, strBin, guardBit, boolOf, fnOf, intOfAV, bound, resOf, retV, moved, rowOf, valAt, Kd.agg, AV.cells, splice, places, fillAV, rowsFill, Hp.none, ↓reduceIte, reduceCtorEq, Nat.reduceLT, Nat.reduceEqDiff, Nat.reduceAdd, Nat.reduceLeDiff, Nat.reducePow, Nat.reduceMul, Yzz, Xzz, Yzy, tyW, bne, be2]
      refine CallQ_k call14 htops (allc (G _) alln) gT ?_
      simp -implicitDefEqProofs only [awl, ne_eq, srcRows, awo, aggEq, eqF, litEq, andO, qwl, qwo, Go.Ab.qOp, lop, oneK, stepOp, pairO, pureOp, heapOp, entry, slotsOf, ev, evL, evP, evO, lk, up, St.put, St.drop, constAV, cellAV, cellsAV, plain, binV, nilCmp, intBin, strBin, guardBit, boolOf, fnOf, intOfAV, bound, resOf, retV, moved, rowOf, valAt, Kd.agg, AV.cells, splice, places, fillAV, rowsFill, Hp.none, ↓reduceIte, reduceCtorEq, Nat.reduceLT, Nat.reduceEqDiff, Nat.reduceAdd, Nat.reduceLeDiff, Nat.reducePow, Nat.reduceMul, Yzz, Xzz, Yzy, tyW, bne]
      refine CallQ_pure call15 rtops (allc pB alln) pT ?_
      simp -implicitDefEqProofs only [awl, ne_eq, srcRows, awo, aggEq, eqF, litEq, andO, qwl, qwo, Go.Ab.qOp, lop, oneK, stepOp, pairO, pureOp, heapOp, entry, slotsOf, ev, evL, evP, evO, lk, up, St.put, St.drop, constAV, cellAV, cellsAV, plain, binV, nilCmp, intBin, strBin, guardBit, boolOf, fnOf, intOfAV, bound, resOf, retV, moved, rowOf, valAt, Kd.agg, AV.cells, splice, places, fillAV, rowsFill, Hp.none, ↓reduceIte, reduceCtorEq, Nat.reduceLT, Nat.reduceEqDiff, Nat.reduceAdd, Nat.reduceLeDiff, Nat.reducePow, Nat.reduceMul, Yzz, Xzz, Yzy, tyW, bne]
      refine CallQ_pure call13 fr (allc pT (allc pT alln)) (.lit _) ?_
      simp -implicitDefEqProofs (disch := omega) only [awl, ne_eq, srcRows, awo, aggEq, eqF, litEq, andO, qwl, qwo, Go.Ab.qOp, lop, oneK, stepOp, pairO, pureOp, heapOp, entry, slotsOf, ev, evL, evP, evO, lk, up, St.put, St.drop, constAV, cellAV, cellsAV, plain, binV, nilCmp, intBin, strBin, guardBit, boolOf, fnOf, intOfAV, bound, resOf, retV, moved, rowOf, valAt, Kd.agg, AV.cells, splice, places, fillAV, rowsFill, Hp.none, ↓reduceIte, reduceCtorEq, Nat.reduceLT, Nat.reduceEqDiff, Nat.reduceAdd, Nat.reduceLeDiff, Nat.reducePow, Nat.reduceMul, Yzz, Xzz, Yzy, tyW, bne, i64w]
      refine ⟨(), ?_⟩
      exact cp_drop' (Nat.zero_le _) (Nat.zero_le _) rfl (allc ⟨by simp [lk], .pure (.lit _)⟩ (allc ⟨by simp [lk], .pure (.lit _)⟩ (allc ⟨by simp [lk], gP.rn⟩ (allc ⟨by simp [lk], gP.rn⟩ (allc ⟨by simp [lk], gS.rn⟩ (allc ⟨by simp [lk], .pure (.lit _)⟩ alln)))))) alln alln
    · rw [if_neg hlong] at hall
      have gr : GP (.tup [.vec (p.2.map encR) false, .lit (.int .i64 0)]) := .of_pure (.tup (allc (.vec (pure_rows pureR _)) (allc (.lit _) alln)))
      refine CallK_k call7 hall (allc (G _) (allc (.lit _) alln)) gr ?_
      have hl1 : ((p.2.length : Int) > min (max most 0) 1000) = False := eq_false hlong
      have b1 : ((0 : Int) == 3) = false := rfl
      have b2 : (false == false) = true := rfl
      have b3 : ((0 : Int) == 0) = true := rfl
      simp -implicitDefEqProofs only [awl, ne_eq, srcRows, awo, aggEq, eqF, litEq, andO, qwl, qwo, Go.Ab.qOp, lop, oneK, stepOp, pairO, pureOp, heapOp, entry, slotsOf, ev, evL, evP, evO, lk, up, St.put, St.drop, constAV, cellAV, cellsAV, plain, binV, nilCmp, intBin, strBin, guardBit, boolOf, fnOf, intOfAV, bound, resOf, retV, moved, rowOf, valAt, Kd.agg, AV.cells, splice, places, fillAV, rowsFill, Hp.none, ↓reduceIte, reduceCtorEq, Nat.reduceLT, Nat.reduceEqDiff, Nat.reduceAdd, Nat.reduceLeDiff, Nat.reducePow, Nat.reduceMul, Yzz, Xzz, Yzy, tyW, List.length_map, em, hl1, decide_false, b1, b2, b3, bne]
      refine CallK_pure call8 rw1 (allc (.vec (pure_rows pureR _)) (allc (.vec (pure_rows pureR _)) alln)) (.lit _) ?_
      simp -implicitDefEqProofs only [awl, ne_eq, srcRows, awo, aggEq, eqF, litEq, andO, qwl, qwo, Go.Ab.qOp, lop, oneK, stepOp, pairO, pureOp, heapOp, entry, slotsOf, ev, evL, evP, evO, lk, up, St.put, St.drop, constAV, cellAV, cellsAV, plain, binV, nilCmp, intBin, strBin, guardBit, boolOf, fnOf, intOfAV, bound, resOf, retV, moved, rowOf, valAt, Kd.agg, AV.cells, splice, places, fillAV, rowsFill, Hp.none, ↓reduceIte, reduceCtorEq, Nat.reduceLT, Nat.reduceEqDiff, Nat.reduceAdd, Nat.reduceLeDiff, Nat.reducePow, Nat.reduceMul, Yzz, Xzz, Yzy, tyW, List.length_map, em, hl1, decide_false, b1, b2, b3, bne]
      refine aw_wk (σ' := ⟨[(9, .ptr 0 0), (20, .lit (.int .i64 (i : Int))), (19, .lit (.int .i64 (rows.length : Int))), (18, .vec (rows.map encPr) false), (7, .vec (rows.map encPr) false), (1, .vec (s.map encP) false), (2, .lit (.int .i64 most))], ⟨[(0, [encO p.1, .vec (p.2.map encR) false])], [], 1⟩, 131⟩) (St.wk_slots (by simp [lk])) ?_
      refine aw_quietN (n := 131) rfl (by decide) mixed ?_
      simp -implicitDefEqProofs only [awl, ne_eq, srcRows, awo, aggEq, eqF, litEq, andO, qwl, qwo, Go.Ab.qOp, lop, oneK, stepOp, pairO, pureOp, heapOp, entry, slotsOf, ev, evL, evP, evO, lk, up, St.put, St.drop, constAV, cellAV, cellsAV, plain, binV, nilCmp, intBin, strBin, guardBit, boolOf, fnOf, intOfAV, bound, resOf, retV, moved, rowOf, valAt, Kd.agg, AV.cells, splice, places, fillAV, rowsFill, Hp.none, ↓reduceIte, reduceCtorEq, Nat.reduceLT, Nat.reduceEqDiff, Nat.reduceAdd, Nat.reduceLeDiff, Nat.reducePow, Nat.reduceMul, Yzz, Xzz, Yzy, tyW]
      refine CallQ_k call9 hsize (allc (G _) alln) (.lit _) ?_
      have be0 : ((p.2.length : Int) == (p.2.length : Int)) = true := beq_self_eq_true _
      simp -implicitDefEqProofs only [awl, ne_eq, srcRows, awo, aggEq, eqF, litEq, andO, qwl, qwo, Go.Ab.qOp, lop, oneK, stepOp, pairO, pureOp, heapOp, entry, slotsOf, ev, evL, evP, evO, lk, up, St.put, St.drop, constAV, cellAV, cellsAV, plain, binV, nilCmp, intBin, strBin, guardBit, boolOf, fnOf, intOfAV, bound, resOf, retV, moved, rowOf, valAt, Kd.agg, AV.cells, splice, places, fillAV, rowsFill, Hp.none, ↓reduceIte, reduceCtorEq, Nat.reduceLT, Nat.reduceEqDiff, Nat.reduceAdd, Nat.reduceLeDiff, Nat.reducePow, Nat.reduceMul, Yzz, Xzz, Yzy, tyW, bne, be0, List.length_map]
      refine CallQ_k call10 hhas (allc (G _) (allc gS alln)) (.lit _) ?_
      simp -implicitDefEqProofs only [awl, ne_eq, srcRows, awo, aggEq, eqF, litEq, andO, qwl, qwo, Go.Ab.qOp, lop, oneK, stepOp, pairO, pureOp, heapOp, entry, slotsOf, ev, evL, evP, evO, lk, up, St.put, St.drop, constAV, cellAV, cellsAV, plain, binV, nilCmp, intBin, strBin, guardBit, boolOf, fnOf, intOfAV, bound, resOf, retV, moved, rowOf, valAt, Kd.agg, AV.cells, splice, places, fillAV, rowsFill, Hp.none, ↓reduceIte, reduceCtorEq, Nat.reduceLT, Nat.reduceEqDiff, Nat.reduceAdd, Nat.reduceLeDiff, Nat.reducePow, Nat.reduceMul, Yzz, Xzz, Yzy, tyW, bne]
      refine CallQ_pure call11 rhas (allc pB (allc (pureS s) alln)) (.lit _) ?_
      have be1 : (decide (s ∈ p.2) == decide (s ∈ p.2)) = true := beq_self_eq_true _
      simp -implicitDefEqProofs only [awl, ne_eq, srcRows, awo, aggEq, eqF, litEq, andO, qwl, qwo, Go.Ab.qOp, lop, oneK, stepOp, pairO, pureOp, heapOp, entry, slotsOf, ev, evL, evP, evO, lk, up, St.put, St.drop, constAV, cellAV, cellsAV, plain, binV, nilCmp, intBin, strBin, guardBit, boolOf, fnOf, intOfAV, bound, resOf, retV, moved, rowOf, valAt, Kd.agg, AV.cells, splice, places, fillAV, rowsFill, Hp.none, ↓reduceIte, reduceCtorEq, Nat.reduceLT, Nat.reduceEqDiff, Nat.reduceAdd, Nat.reduceLeDiff, Nat.reducePow, Nat.reduceMul, Yzz, Xzz, Yzy, tyW, bne, be1]
      refine CallQ_k call12 hbare (allc (G _) alln) (.lit _) ?_
      simp -implicitDefEqProofs only [awl, ne_eq, srcRows, awo, aggEq, eqF, litEq, andO, qwl, qwo, Go.Ab.qOp, lop, oneK, stepOp, pairO, pureOp, heapOp, entry, slotsOf, ev, evL, evP, evO, lk, up, St.put, St.drop, constAV, cellAV, cellsAV, plain, binV, nilCmp, intBin, strBin, guardBit, boolOf, fnOf, intOfAV, bound, resOf, retV, moved, rowOf, valAt, Kd.agg, AV.cells, splice, places, fillAV, rowsFill, Hp.none, ↓reduceIte, reduceCtorEq, Nat.reduceLT, Nat.reduceEqDiff, Nat.reduceAdd, Nat.reduceLeDiff, Nat.reducePow, Nat.reduceMul, Yzz, Xzz, Yzy, tyW, bne]
      refine CallQ_pure call11 rhas0 (allc pB (allc (.vec (by simp)) alln)) (.lit _) ?_
      have be2 : (decide ([] ∈ p.2) == decide ([] ∈ p.2)) = true := beq_self_eq_true _
      simp -implicitDefEqProofs only [awl, ne_eq, srcRows, awo, aggEq, eqF, litEq, andO, qwl, qwo, Go.Ab.qOp, lop, oneK, stepOp, pairO, pureOp, heapOp, entry, slotsOf, ev, evL, evP, evO, lk, up, St.put, St.drop, constAV, cellAV, cellsAV, plain, binV, nilCmp, intBin, strBin, guardBit, boolOf, fnOf, intOfAV, bound, resOf, retV, moved, rowOf, valAt, Kd.agg, AV.cells, splice, places, fillAV, rowsFill, Hp.none, ↓reduceIte, reduceCtorEq, Nat.reduceLT, Nat.reduceEqDiff, Nat.reduceAdd, Nat.reduceLeDiff, Nat.reducePow, Nat.reduceMul, Yzz, Xzz, Yzy, tyW, bne, be2]
      refine CallQ_k call14 htops (allc (G _) alln) gT ?_
      simp -implicitDefEqProofs only [awl, ne_eq, srcRows, awo, aggEq, eqF, litEq, andO, qwl, qwo, Go.Ab.qOp, lop, oneK, stepOp, pairO, pureOp, heapOp, entry, slotsOf, ev, evL, evP, evO, lk, up, St.put, St.drop, constAV, cellAV, cellsAV, plain, binV, nilCmp, intBin, strBin, guardBit, boolOf, fnOf, intOfAV, bound, resOf, retV, moved, rowOf, valAt, Kd.agg, AV.cells, splice, places, fillAV, rowsFill, Hp.none, ↓reduceIte, reduceCtorEq, Nat.reduceLT, Nat.reduceEqDiff, Nat.reduceAdd, Nat.reduceLeDiff, Nat.reducePow, Nat.reduceMul, Yzz, Xzz, Yzy, tyW, bne]
      refine CallQ_pure call15 rtops (allc pB alln) pT ?_
      simp -implicitDefEqProofs only [awl, ne_eq, srcRows, awo, aggEq, eqF, litEq, andO, qwl, qwo, Go.Ab.qOp, lop, oneK, stepOp, pairO, pureOp, heapOp, entry, slotsOf, ev, evL, evP, evO, lk, up, St.put, St.drop, constAV, cellAV, cellsAV, plain, binV, nilCmp, intBin, strBin, guardBit, boolOf, fnOf, intOfAV, bound, resOf, retV, moved, rowOf, valAt, Kd.agg, AV.cells, splice, places, fillAV, rowsFill, Hp.none, ↓reduceIte, reduceCtorEq, Nat.reduceLT, Nat.reduceEqDiff, Nat.reduceAdd, Nat.reduceLeDiff, Nat.reducePow, Nat.reduceMul, Yzz, Xzz, Yzy, tyW, bne]
      refine CallQ_pure call13 fr (allc pT (allc pT alln)) (.lit _) ?_
      simp -implicitDefEqProofs (disch := omega) only [awl, ne_eq, srcRows, awo, aggEq, eqF, litEq, andO, qwl, qwo, Go.Ab.qOp, lop, oneK, stepOp, pairO, pureOp, heapOp, entry, slotsOf, ev, evL, evP, evO, lk, up, St.put, St.drop, constAV, cellAV, cellsAV, plain, binV, nilCmp, intBin, strBin, guardBit, boolOf, fnOf, intOfAV, bound, resOf, retV, moved, rowOf, valAt, Kd.agg, AV.cells, splice, places, fillAV, rowsFill, Hp.none, ↓reduceIte, reduceCtorEq, Nat.reduceLT, Nat.reduceEqDiff, Nat.reduceAdd, Nat.reduceLeDiff, Nat.reducePow, Nat.reduceMul, Yzz, Xzz, Yzy, tyW, bne, i64w]
      refine ⟨(), ?_⟩
      exact cp_drop' (Nat.zero_le _) (Nat.zero_le _) rfl (allc ⟨by simp [lk], .pure (.lit _)⟩ (allc ⟨by simp [lk], .pure (.lit _)⟩ (allc ⟨by simp [lk], gP.rn⟩ (allc ⟨by simp [lk], gP.rn⟩ (allc ⟨by simp [lk], gS.rn⟩ (allc ⟨by simp [lk], .pure (.lit _)⟩ alln)))))) alln alln
  · have i1 : ¬ (rows.length : Int) < (rows.length : Int) := by omega
    simp -implicitDefEqProofs only [awl, ne_eq, srcRows, awo, aggEq, eqF, litEq, andO, qwl, qwo, Go.Ab.qOp, lop, oneK, stepOp, pairO, pureOp, heapOp, entry, slotsOf, ev, evL, evP, evO, lk, up, St.put, St.drop, constAV, cellAV, cellsAV, plain, binV, nilCmp, intBin, strBin, guardBit, boolOf, fnOf, intOfAV, bound, resOf, retV, moved, rowOf, valAt, Kd.agg, AV.cells, splice, places, fillAV, rowsFill, Hp.none, ↓reduceIte, reduceCtorEq, Nat.reduceLT, Nat.reduceEqDiff, Nat.reduceAdd, Nat.reduceLeDiff, Nat.reducePow, Nat.reduceMul, Yzz, Xzz, Yzy, tyW, telS, i1, decide_false, List.length_map]
    refine aw_forE rows.length 0 (fun j (_ : Unit) => ⟨[(108, .lit (.int .i64 (j : Int))), (107, .lit (.int .i64 (rows.length : Int))), (106, .vec (rows.map encPr) false), (7, .vec (rows.map encPr) false)], .none, 131⟩) (fun _ _ => True) (Nat.le_refl _) () (St.wk.cp (St.wk_slots (by simp [lk]))) trivial (fun j _ hlt _ => ?_) (fun _ _ => ?_)
    · have j1 : (j : Int) < (rows.length : Int) := by omega
      have ncast : ∀ n : Nat, (0 : Int) ≤ (n : Int) := Int.natCast_nonneg
      obtain ⟨p, hp⟩ : ∃ p, rows[j]? = some p := ⟨_, List.getElem?_eq_getElem hlt⟩
      obtain ⟨q, hq⟩ : ∃ q, rows[rows.length - 1]? = some q := ⟨_, List.getElem?_eq_getElem (by omega)⟩
      have hpm := List.mem_of_getElem? hp
      have hqm := List.mem_of_getElem? hq
      have gp := map_getD encPr hp
      have gq := map_getD encPr hq
      have ep : ∀ p, encPr p = [encO p.1, .vec (p.2.map encR) false] := fun _ => rfl
      rw [ep] at gp gq
      have wp := (ok p hpm).wf
      have np : BndO 536870912 p.1 := (ok p hpm).bd.mono (by decide)
      have wq := (ok q hqm).wf
      have nq : BndO 536870912 q.1 := (ok q hqm).bd.mono (by decide)
      have lp := (ok p hpm).len
      have lq := (ok q hqm).len
      have sp : ∀ x ∈ p.2, x.length ≤ 38 := (ok p hpm).sks
      have sq : ∀ x ∈ q.2, x.length ≤ 38 := (ok q hqm).sks
      have hsame := Same_spec 536870912 (by decide) p.1 q.1 (decide (p.2 = q.2)) (by rw [decide_eq_true_iff, rel_same (rel p hpm) (rel q hqm) wp wq]) np nq
      have rsame := Same_r p.2 q.2 (by omega) (fun x hx => by have := sp x hx; omega) (fun x hx => by have := sq x hx; omega)
      have w1 : IntKind.i64.wrap ((rows.length : Int) - 1) = ((rows.length - 1 : Nat) : Int) := by rw [i64w (by omega) (by omega)]; omega
      have j2 : ((rows.length - 1 : Nat) : Int) < (rows.length : Int) := by omega
      have gP : GP (.vec (rows.map encPr) false) := .vec (fun x hx c hc => by obtain ⟨y, _, rfl⟩ := List.mem_map.1 hx; exact gp_encPr y c hc)
      have G := gp_encB
      simp -implicitDefEqProofs only [awl, ne_eq, srcRows, awo, aggEq, eqF, litEq, andO, qwl, qwo, Go.Ab.qOp, lop, oneK, stepOp, pairO, pureOp, heapOp, entry, slotsOf, ev, evL, evP, evO, lk, up, St.put, St.drop, constAV, cellAV, cellsAV, plain, binV, nilCmp, intBin, strBin, guardBit, boolOf, fnOf, intOfAV, bound, resOf, retV, moved, rowOf, valAt, Kd.agg, AV.cells, splice, places, fillAV, rowsFill, Hp.none, ↓reduceIte, reduceCtorEq, Nat.reduceLT, Nat.reduceEqDiff, Nat.reduceAdd, Nat.reduceLeDiff, Nat.reducePow, Nat.reduceMul, Yzz, Xzz, Yzy, tyW, j1, decide_true, ncast, Int.toNat_natCast, gp, gq, w1, j2, List.length_map]
      refine aw_quietN (n := 131) rfl (by decide) mixed ?_
      simp -implicitDefEqProofs only [awl, ne_eq, srcRows, awo, aggEq, eqF, litEq, andO, qwl, qwo, Go.Ab.qOp, lop, oneK, stepOp, pairO, pureOp, heapOp, entry, slotsOf, ev, evL, evP, evO, lk, up, St.put, St.drop, constAV, cellAV, cellsAV, plain, binV, nilCmp, intBin, strBin, guardBit, boolOf, fnOf, intOfAV, bound, resOf, retV, moved, rowOf, valAt, Kd.agg, AV.cells, splice, places, fillAV, rowsFill, Hp.none, ↓reduceIte, reduceCtorEq, Nat.reduceLT, Nat.reduceEqDiff, Nat.reduceAdd, Nat.reduceLeDiff, Nat.reducePow, Nat.reduceMul, Yzz, Xzz, Yzy, tyW]
      refine CallQ_k call16 hsame (allc (G _) (allc (G _) alln)) (.lit _) ?_
      simp -implicitDefEqProofs only [awl, ne_eq, srcRows, awo, aggEq, eqF, litEq, andO, qwl, qwo, Go.Ab.qOp, lop, oneK, stepOp, pairO, pureOp, heapOp, entry, slotsOf, ev, evL, evP, evO, lk, up, St.put, St.drop, constAV, cellAV, cellsAV, plain, binV, nilCmp, intBin, strBin, guardBit, boolOf, fnOf, intOfAV, bound, resOf, retV, moved, rowOf, valAt, Kd.agg, AV.cells, splice, places, fillAV, rowsFill, Hp.none, ↓reduceIte, reduceCtorEq, Nat.reduceLT, Nat.reduceEqDiff, Nat.reduceAdd, Nat.reduceLeDiff, Nat.reducePow, Nat.reduceMul, Yzz, Xzz, Yzy, tyW]
      refine CallQ_pure call17 rsame (allc (pureBr _) (allc (pureBr _) alln)) (.lit _) ?_
      have be : (decide (p.2 = q.2) == decide (p.2 = q.2)) = true := beq_self_eq_true _
      simp -implicitDefEqProofs (disch := omega) only [awl, ne_eq, srcRows, awo, aggEq, eqF, litEq, andO, qwl, qwo, Go.Ab.qOp, lop, oneK, stepOp, pairO, pureOp, heapOp, entry, slotsOf, ev, evL, evP, evO, lk, up, St.put, St.drop, constAV, cellAV, cellsAV, plain, binV, nilCmp, intBin, strBin, guardBit, boolOf, fnOf, intOfAV, bound, resOf, retV, moved, rowOf, valAt, Kd.agg, AV.cells, splice, places, fillAV, rowsFill, Hp.none, ↓reduceIte, reduceCtorEq, Nat.reduceLT, Nat.reduceEqDiff, Nat.reduceAdd, Nat.reduceLeDiff, Nat.reducePow, Nat.reduceMul, Yzz, Xzz, Yzy, tyW, bne, be, i64w]
      refine ⟨(), ?_⟩
      exact cp_drop' (Nat.zero_le _) (Nat.zero_le _) rfl (allc ⟨by simp [lk], .pure (.lit _)⟩ (allc ⟨by simp [lk], .pure (.lit _)⟩ (allc ⟨by simp [lk], gP.rn⟩ (allc ⟨by simp [lk], gP.rn⟩ alln)))) alln alln
    · have i1 : ¬ (rows.length : Int) < (rows.length : Int) := by omega
      simp -implicitDefEqProofs only [awl, ne_eq, srcRows, awo, aggEq, eqF, litEq, andO, qwl, qwo, Go.Ab.qOp, lop, oneK, stepOp, pairO, pureOp, heapOp, entry, slotsOf, ev, evL, evP, evO, lk, up, St.put, St.drop, constAV, cellAV, cellsAV, plain, binV, nilCmp, intBin, strBin, guardBit, boolOf, fnOf, intOfAV, bound, resOf, retV, moved, rowOf, valAt, Kd.agg, AV.cells, splice, places, fillAV, rowsFill, Hp.none, ↓reduceIte, reduceCtorEq, Nat.reduceLT, Nat.reduceEqDiff, Nat.reduceAdd, Nat.reduceLeDiff, Nat.reducePow, Nat.reduceMul, Yzz, Xzz, Yzy, tyW, telS, i1, decide_false, List.length_map]
      refine CallK_k call18 wakes_spec alln (.lit _) ?_
      simp -implicitDefEqProofs only [awl, ne_eq, srcRows, awo, aggEq, eqF, litEq, andO, qwl, qwo, Go.Ab.qOp, lop, oneK, stepOp, pairO, pureOp, heapOp, entry, slotsOf, ev, evL, evP, evO, lk, up, St.put, St.drop, constAV, cellAV, cellsAV, plain, binV, nilCmp, intBin, strBin, guardBit, boolOf, fnOf, intOfAV, bound, resOf, retV, moved, rowOf, valAt, Kd.agg, AV.cells, splice, places, fillAV, rowsFill, Hp.none, ↓reduceIte, reduceCtorEq, Nat.reduceLT, Nat.reduceEqDiff, Nat.reduceAdd, Nat.reduceLeDiff, Nat.reducePow, Nat.reduceMul, Yzz, Xzz, Yzy, tyW]
      exact kexpo (.lit _)
end Go.Proofs.Ytfnmdmadaljjkaa
end
