/- The leaves of a tree, gathered. Conditions: those that each theorem names. -/
import Derived.Test.YtlifonlohiihiaaF3
namespace Go.Proofs.Ytlifonlohiihiaa
open Go.Ab
set_option linter.unusedSimpArgs false
set_option linter.unusedVariables false
set_option linter.unnecessarySimpa false

/-- A row of trees that may grow: one that stays, or one that is owned. -/
def KT (tk : List (Nat × Tk)) (K : AV) (us : List Tr) : Prop := (tk = [] ∧ K = .vec (encs us) true) ∨ ∃ t fz, tk = [(t, ⟨encs us, fz, 7⟩)] ∧ K = .own t us.length ∧ fz ≤ us.length

theorem KT.lk {tk : List (Nat × Tk)} {K : AV} {us : List Tr} (h : KT tk K us) : ∀ a b, (a, b) ∈ tk → lk tk a = some b := by
  rcases h with ⟨rfl, _⟩ | ⟨t, fz, rfl, _⟩
  · intro a b h; cases h
  · intro a b h
    simp only [List.mem_singleton, Prod.mk.injEq] at h
    obtain ⟨rfl, rfl⟩ := h
    exact if_pos rfl

theorem encs_append : ∀ l l' : List Tr, encs (l ++ l') = encs l ++ encs l'
  | [], l' => rfl
  | t :: l, l' => by simp [encs, encs_append l l']
theorem encs_rows (l : List Tr) : ∀ x ∈ encs l, x.length = 7 := by
  intro x hx
  induction l with
  | nil => simp [encs] at hx
  | cons t l ih =>
    simp only [encs, List.mem_cons] at hx
    rcases hx with rfl | hx
    · exact enc_length t
    · exact ih hx

mutual
def lvs : Tr → List Tr
  | .mk k _ _ t ty _ ks => if k == 0 || k == 1 then lvsL ks else [.mk k 0 0 t ty false []]
def lvsL : List Tr → List Tr
  | [] => []
  | t :: l => lvs t ++ lvsL l
end
theorem lvsL_append : ∀ l l' : List Tr, lvsL (l ++ l') = lvsL l ++ lvsL l'
  | [], l' => rfl
  | t :: l, l' => by simp [lvsL, lvsL_append l l']
theorem lvsL_len : ∀ (l : List Tr), (∀ t ∈ l, (lvs t).length ≤ tsz t) → (lvsL l).length ≤ tszs l
  | [], _ => by simp [lvsL]
  | t :: l, h => by
    have := h t (by simp)
    have := lvsL_len l (fun t ht => h t (by simp [ht]))
    simp [lvsL, tszs]; omega
theorem lvs_len (t : Tr) : (lvs t).length ≤ tsz t := by
  match t with
  | .mk k r a tk ty o ks =>
    have := lvsL_len ks (fun q hq => lvs_len q)
    simp only [lvs, tsz]
    split
    · omega
    · simp
  termination_by SizeOf.sizeOf t
  decreasing_by simp_wf; have := List.sizeOf_lt_of_mem hq; omega
theorem tszs_append : ∀ l l' : List Tr, tszs (l ++ l') = tszs l + tszs l'
  | [], l' => by simp [tszs]
  | t :: l, l' => by simp [tszs, tszs_append l l']; omega
theorem tszs_take_le (l : List Tr) (i : Nat) : tszs (l.take i) ≤ tszs l := by
  have := tszs_append (l.take i) (l.drop i)
  rw [List.take_append_drop] at this; omega
theorem tszs_take_succ (l : List Tr) (i : Nat) (x : Tr) (h : l[i]? = some x) : tszs (l.take i) + tsz x ≤ tszs l := by
  have h1 := tszs_take_le l (i + 1)
  rw [List.take_add_one, h, Option.toList_some, tszs_append] at h1
  simpa [tszs] using h1

theorem fits_of {n b : Nat} (h : n ≤ 2000000000) (hb : b ≤ 20000) : fits n b := by
  refine ⟨by unfold maxLen; omega, ?_⟩
  have : n * b ≤ 2000000000 * 20000 := Nat.mul_le_mul h hb
  omega

theorem leaves_spec (t : Tr) (us : List Tr) (K : AV) (tk : List (Nat × Tk)) (N : Nat) (hs : us.length + tsz t ≤ 1000000000) (hK : KT tk K us) :
    SCall Try.prog 9 [.agg (enc t), K] ⟨[], tk, N⟩ fun r h' => KT h'.toks r (us ++ lvs t) := by
  match t with
  | .mk k r a tkn ty o ks =>
    have ih : ∀ q ∈ ks, ∀ us K tk N, us.length + tsz q ≤ 1000000000 → KT tk K us → SCall Try.prog 9 [.agg (enc q), K] ⟨[], tk, N⟩ fun r h' => KT h'.toks r (us ++ lvs q) := fun q hq us K tk N h1 h2 => leaves_spec q us K tk N h1 h2
    have hlen : ks.length ≤ 1000000000 := by simp only [tsz] at hs; have := tszs_len ks; omega
    refine SCall_introW Try.func9 rfl Try.ntmps9 (rs := [.tmp 4]) rfl (by simp) ?_
    simp only [lvs]
    cases h0 : (k == 0 || k == 1)
    · have n0 : (k != 0) = true := by simp at h0 ⊢; exact h0.1
      have n1 : (k != 1) = true := by simp at h0 ⊢; exact h0.2
      have hfit : fits (us.length + 1) 72 := fits_of (by simp only [tsz] at hs; omega) (by omega)
      have hr7 : (∀ q ∈ encs us, q.length = 7) = True := eq_true (encs_rows us)
      rcases hK with ⟨rfl, rfl⟩ | ⟨t, fz, rfl, rfl, hfz⟩
      · simp only [awp_skip, awp_region, awp_draw, awp_seq, awp_cond, awp_block, awp_exit, awp_label, awp_goto, awp_ret, awp_loop, awp_scope, seqK_normal, seqK_ret, seqK_exit, seqK_goto, blockK_normal, blockK_ret, blockK_goto, blockK_exit, jumpK_normal, jumpK_ret, jumpK_exit, stayK_normal, stayK_ret, stayK_exit, retK_normal, retK_ret, awl, gwl_nil, gwl_plain, gwl_guard, guardK_true, guardK_false, SplitO_true, SplitO_false, SplitC_true, SplitC_false, SplitP_true, SplitP_false, condK_some, PickK_some, pickV_some, resK_some, ne_eq, srcRows, awo, aggEq, eqF, litEq, andO, qwl, qwo, qOp, callQ_some, walkT_leaf, walkT_last, walkT_alt, oneK, retW_normal, retW_ret, cutK_normal, cutK_ret, jumpK_goto, stepOp, stepK_val, stepK_none, callK_some, pairO, pureOp, heapOp, entry, slotsOf, ev, evL, evP, evO, lk, up, St.put, St.drop, constAV, cellAV, cellsAV, plain, binV, intBin, strBin, guardBit, boolOf, fnOf, intOfAV, bound, resOf, retV, moved, rowOf, valAt, Kd.agg, AV.cells, splice, places, fillAV, rowsFill, Hp.none, Option.bind_some, Option.bind_none, Option.map_some, Option.map_none, ↓reduceIte, reduceCtorEq, Nat.reduceLT, Nat.reduceEqDiff, Nat.reduceAdd, Nat.reduceLeDiff, Nat.reducePow, Nat.reduceMul, Nat.zero_add, Nat.add_zero, List.getElem?_toArray, List.getElem?_cons_succ, List.getElem?_cons_zero, List.length_cons, List.length_nil, List.drop_succ_cons, List.drop_zero, List.drop_nil, List.take_succ_cons, List.take_zero, List.take_nil, List.cons_append, List.nil_append, List.append_nil, List.set_cons_succ, List.set_cons_zero, List.replicate_succ, List.replicate_zero, and_self, and_true, true_and, Nat.le_refl, Nat.one_ne_zero, not_false_eq_true, not_true_eq_false, true_or, or_true, false_or, or_false, Bool.not_true, Bool.not_false, ty2, ty3, ty4, ty5, ty6, ty7, ty8, ty9, ty10, ty11, ty12, ty13, ty14, ty15, ty16, ty17, ty18, ty19, ty21, ty22, ty23, ty24, ty25, ty38, ty39, nmOk39, ty44, ty45, ty46, ty47, ty48, ty50, ty51, ty52, ty54, ty55, ty56, ty57, ty58, enc, n0, n1, encs_length, List.mem_singleton, forall_eq, hfit, hr7]
        refine ⟨⟨[(4, .own (N + 1) (us.length + 1))], ⟨[], [(N + 1, ⟨encs (us ++ [.mk k 0 0 tkn ty false []]), 0, 7⟩)], N + 1 + 1⟩, 39⟩, St.wk_conv rfl rfl (fun g g' x p hp => ?_) (fun g g' x p hp => by cases hp) (fun g p hp => ?_), ?_⟩
        · simp only [List.mem_singleton] at hp; subst hp
          exact ⟨_, rfl, cv_refl x _⟩
        · simp only [List.mem_singleton] at hp; subst hp
          refine ⟨_, if_pos rfl, rfl, rfl, ?_⟩
          simp only [encs_append, encs, enc]
          refine CvR.snoc (CvR.refl (.refl g) _) ?_ rfl
          iterate 6 refine cvL_same ?_
          exact cvL_full cvL_nil
        · simp only [awp_skip, awp_region, awp_draw, awp_seq, awp_cond, awp_block, awp_exit, awp_label, awp_goto, awp_ret, awp_loop, awp_scope, seqK_normal, seqK_ret, seqK_exit, seqK_goto, blockK_normal, blockK_ret, blockK_goto, blockK_exit, jumpK_normal, jumpK_ret, jumpK_exit, stayK_normal, stayK_ret, stayK_exit, retK_normal, retK_ret, awl, gwl_nil, gwl_plain, gwl_guard, guardK_true, guardK_false, SplitO_true, SplitO_false, SplitC_true, SplitC_false, SplitP_true, SplitP_false, condK_some, PickK_some, pickV_some, resK_some, ne_eq, srcRows, awo, aggEq, eqF, litEq, andO, qwl, qwo, qOp, callQ_some, walkT_leaf, walkT_last, walkT_alt, oneK, retW_normal, retW_ret, cutK_normal, cutK_ret, jumpK_goto, stepOp, stepK_val, stepK_none, callK_some, pairO, pureOp, heapOp, entry, slotsOf, ev, evL, evP, evO, lk, up, St.put, St.drop, constAV, cellAV, cellsAV, plain, binV, intBin, strBin, guardBit, boolOf, fnOf, intOfAV, bound, resOf, retV, moved, rowOf, valAt, Kd.agg, AV.cells, splice, places, fillAV, rowsFill, Hp.none, Option.bind_some, Option.bind_none, Option.map_some, Option.map_none, ↓reduceIte, reduceCtorEq, Nat.reduceLT, Nat.reduceEqDiff, Nat.reduceAdd, Nat.reduceLeDiff, Nat.reducePow, Nat.reduceMul, Nat.zero_add, Nat.add_zero, List.getElem?_toArray, List.getElem?_cons_succ, List.getElem?_cons_zero, List.length_cons, List.length_nil, List.drop_succ_cons, List.drop_zero, List.drop_nil, List.take_succ_cons, List.take_zero, List.take_nil, List.cons_append, List.nil_append, List.append_nil, List.set_cons_succ, List.set_cons_zero, List.replicate_succ, List.replicate_zero, and_self, and_true, true_and, Nat.le_refl, Nat.one_ne_zero, not_false_eq_true, not_true_eq_false, true_or, or_true, false_or, or_false, Bool.not_true, Bool.not_false, ty2, ty3, ty4, ty5, ty6, ty7, ty8, ty9, ty10, ty11, ty12, ty13, ty14, ty15, ty16, ty17, ty18, ty19, ty21, ty22, ty23, ty24, ty25, ty38, ty39, nmOk39, ty44, ty45, ty46, ty47, ty48, ty50, ty51, ty52, ty54, ty55, ty56, ty57, ty58]
          exact .inr ⟨N + 1, 0, rfl, by simp, by simp⟩
      · simp only [awp_skip, awp_region, awp_draw, awp_seq, awp_cond, awp_block, awp_exit, awp_label, awp_goto, awp_ret, awp_loop, awp_scope, seqK_normal, seqK_ret, seqK_exit, seqK_goto, blockK_normal, blockK_ret, blockK_goto, blockK_exit, jumpK_normal, jumpK_ret, jumpK_exit, stayK_normal, stayK_ret, stayK_exit, retK_normal, retK_ret, awl, gwl_nil, gwl_plain, gwl_guard, guardK_true, guardK_false, SplitO_true, SplitO_false, SplitC_true, SplitC_false, SplitP_true, SplitP_false, condK_some, PickK_some, pickV_some, resK_some, ne_eq, srcRows, awo, aggEq, eqF, litEq, andO, qwl, qwo, qOp, callQ_some, walkT_leaf, walkT_last, walkT_alt, oneK, retW_normal, retW_ret, cutK_normal, cutK_ret, jumpK_goto, stepOp, stepK_val, stepK_none, callK_some, pairO, pureOp, heapOp, entry, slotsOf, ev, evL, evP, evO, lk, up, St.put, St.drop, constAV, cellAV, cellsAV, plain, binV, intBin, strBin, guardBit, boolOf, fnOf, intOfAV, bound, resOf, retV, moved, rowOf, valAt, Kd.agg, AV.cells, splice, places, fillAV, rowsFill, Hp.none, Option.bind_some, Option.bind_none, Option.map_some, Option.map_none, ↓reduceIte, reduceCtorEq, Nat.reduceLT, Nat.reduceEqDiff, Nat.reduceAdd, Nat.reduceLeDiff, Nat.reducePow, Nat.reduceMul, Nat.zero_add, Nat.add_zero, List.getElem?_toArray, List.getElem?_cons_succ, List.getElem?_cons_zero, List.length_cons, List.length_nil, List.drop_succ_cons, List.drop_zero, List.drop_nil, List.take_succ_cons, List.take_zero, List.take_nil, List.cons_append, List.nil_append, List.append_nil, List.set_cons_succ, List.set_cons_zero, List.replicate_succ, List.replicate_zero, and_self, and_true, true_and, Nat.le_refl, Nat.one_ne_zero, not_false_eq_true, not_true_eq_false, true_or, or_true, false_or, or_false, Bool.not_true, Bool.not_false, ty2, ty3, ty4, ty5, ty6, ty7, ty8, ty9, ty10, ty11, ty12, ty13, ty14, ty15, ty16, ty17, ty18, ty19, ty21, ty22, ty23, ty24, ty25, ty38, ty39, nmOk39, ty44, ty45, ty46, ty47, ty48, ty50, ty51, ty52, ty54, ty55, ty56, ty57, ty58, enc, n0, n1, encs_length, List.mem_singleton, forall_eq, hfit, hr7]
        refine ⟨⟨[(4, .own t (us.length + 1))], ⟨[], [(t, ⟨encs (us ++ [.mk k 0 0 tkn ty false []]), fz, 7⟩)], N + 1⟩, 39⟩, St.wk_conv rfl rfl (fun g g' x p hp => ?_) (fun g g' x p hp => by cases hp) (fun g p hp => ?_), ?_⟩
        · simp only [List.mem_singleton] at hp; subst hp
          exact ⟨_, rfl, cv_refl x _⟩
        · simp only [List.mem_singleton] at hp; subst hp
          refine ⟨_, if_pos rfl, rfl, rfl, ?_⟩
          simp only [encs_append, encs, enc]
          refine CvR.snoc (CvR.refl (.refl g) _) ?_ rfl
          iterate 6 refine cvL_same ?_
          exact cvL_full cvL_nil
        · simp only [awp_skip, awp_region, awp_draw, awp_seq, awp_cond, awp_block, awp_exit, awp_label, awp_goto, awp_ret, awp_loop, awp_scope, seqK_normal, seqK_ret, seqK_exit, seqK_goto, blockK_normal, blockK_ret, blockK_goto, blockK_exit, jumpK_normal, jumpK_ret, jumpK_exit, stayK_normal, stayK_ret, stayK_exit, retK_normal, retK_ret, awl, gwl_nil, gwl_plain, gwl_guard, guardK_true, guardK_false, SplitO_true, SplitO_false, SplitC_true, SplitC_false, SplitP_true, SplitP_false, condK_some, PickK_some, pickV_some, resK_some, ne_eq, srcRows, awo, aggEq, eqF, litEq, andO, qwl, qwo, qOp, callQ_some, walkT_leaf, walkT_last, walkT_alt, oneK, retW_normal, retW_ret, cutK_normal, cutK_ret, jumpK_goto, stepOp, stepK_val, stepK_none, callK_some, pairO, pureOp, heapOp, entry, slotsOf, ev, evL, evP, evO, lk, up, St.put, St.drop, constAV, cellAV, cellsAV, plain, binV, intBin, strBin, guardBit, boolOf, fnOf, intOfAV, bound, resOf, retV, moved, rowOf, valAt, Kd.agg, AV.cells, splice, places, fillAV, rowsFill, Hp.none, Option.bind_some, Option.bind_none, Option.map_some, Option.map_none, ↓reduceIte, reduceCtorEq, Nat.reduceLT, Nat.reduceEqDiff, Nat.reduceAdd, Nat.reduceLeDiff, Nat.reducePow, Nat.reduceMul, Nat.zero_add, Nat.add_zero, List.getElem?_toArray, List.getElem?_cons_succ, List.getElem?_cons_zero, List.length_cons, List.length_nil, List.drop_succ_cons, List.drop_zero, List.drop_nil, List.take_succ_cons, List.take_zero, List.take_nil, List.cons_append, List.nil_append, List.append_nil, List.set_cons_succ, List.set_cons_zero, List.replicate_succ, List.replicate_zero, and_self, and_true, true_and, Nat.le_refl, Nat.one_ne_zero, not_false_eq_true, not_true_eq_false, true_or, or_true, false_or, or_false, Bool.not_true, Bool.not_false, ty2, ty3, ty4, ty5, ty6, ty7, ty8, ty9, ty10, ty11, ty12, ty13, ty14, ty15, ty16, ty17, ty18, ty19, ty21, ty22, ty23, ty24, ty25, ty38, ty39, nmOk39, ty44, ty45, ty46, ty47, ty48, ty50, ty51, ty52, ty54, ty55, ty56, ty57, ty58]
          exact .inr ⟨t, fz, rfl, by simp, by simp; omega⟩
    · have n01 : ((k != 0) = false ∧ (k != 0) = false) ∨ ((k != 0) = true ∧ (k != 1) = false) := by
        simp only [Bool.or_eq_true, beq_iff_eq] at h0
        rcases h0 with rfl | rfl
        · exact .inl ⟨rfl, rfl⟩
        · exact .inr ⟨rfl, rfl⟩
      rcases n01 with ⟨n0, n1⟩ | ⟨n0, n1⟩
      all_goals
        simp only [awp_skip, awp_region, awp_draw, awp_seq, awp_cond, awp_block, awp_exit, awp_label, awp_goto, awp_ret, awp_loop, awp_scope, seqK_normal, seqK_ret, seqK_exit, seqK_goto, blockK_normal, blockK_ret, blockK_goto, blockK_exit, jumpK_normal, jumpK_ret, jumpK_exit, stayK_normal, stayK_ret, stayK_exit, retK_normal, retK_ret, awl, gwl_nil, gwl_plain, gwl_guard, guardK_true, guardK_false, SplitO_true, SplitO_false, SplitC_true, SplitC_false, SplitP_true, SplitP_false, condK_some, PickK_some, pickV_some, resK_some, ne_eq, srcRows, awo, aggEq, eqF, litEq, andO, qwl, qwo, qOp, callQ_some, walkT_leaf, walkT_last, walkT_alt, oneK, retW_normal, retW_ret, cutK_normal, cutK_ret, jumpK_goto, stepOp, stepK_val, stepK_none, callK_some, pairO, pureOp, heapOp, entry, slotsOf, ev, evL, evP, evO, lk, up, St.put, St.drop, constAV, cellAV, cellsAV, plain, binV, intBin, strBin, guardBit, boolOf, fnOf, intOfAV, bound, resOf, retV, moved, rowOf, valAt, Kd.agg, AV.cells, splice, places, fillAV, rowsFill, Hp.none, Option.bind_some, Option.bind_none, Option.map_some, Option.map_none, ↓reduceIte, reduceCtorEq, Nat.reduceLT, Nat.reduceEqDiff, Nat.reduceAdd, Nat.reduceLeDiff, Nat.reducePow, Nat.reduceMul, Nat.zero_add, Nat.add_zero, List.getElem?_toArray, List.getElem?_cons_succ, List.getElem?_cons_zero, List.length_cons, List.length_nil, List.drop_succ_cons, List.drop_zero, List.drop_nil, List.take_succ_cons, List.take_zero, List.take_nil, List.cons_append, List.nil_append, List.append_nil, List.set_cons_succ, List.set_cons_zero, List.replicate_succ, List.replicate_zero, and_self, and_true, true_and, Nat.le_refl, Nat.one_ne_zero, not_false_eq_true, not_true_eq_false, true_or, or_true, false_or, or_false, Bool.not_true, Bool.not_false, ty2, ty3, ty4, ty5, ty6, ty7, ty8, ty9, ty10, ty11, ty12, ty13, ty14, ty15, ty16, ty17, ty18, ty19, ty21, ty22, ty23, ty24, ty25, ty38, ty39, nmOk39, ty44, ty45, ty46, ty47, ty48, ty50, ty51, ty52, ty54, ty55, ty56, ty57, ty58, enc, n0, n1]
        refine aw_loop (fun n σ => ∃ i tk' K' N', i ≤ ks.length ∧ n = ks.length - i ∧ KT tk' K' (us ++ lvsL (ks.take i)) ∧ σ = ⟨[(2, .ptr N 0), (1, K'), (5, .lit (.int .i64 i))], ⟨[(N, enc (.mk k r a tkn ty o ks))], tk', N'⟩, 39⟩)
          (σ' := ⟨[(2, .ptr N 0), (1, K), (5, .lit (.int .i64 0))], ⟨[(N, enc (.mk k r a tkn ty o ks))], tk, N + 1⟩, 39⟩) (St.le.wk (by simpa [St.le, Go.Ab.lk, enc] using hK.lk)) ks.length ⟨0, tk, K, N + 1, by simp, by simp, by simpa [lvsL] using hK, rfl⟩ ?_
        rintro n σ ⟨i, tk', K', N', hi, rfl, hK', rfl⟩
        simp only [awp_skip, awp_region, awp_draw, awp_seq, awp_cond, awp_block, awp_exit, awp_label, awp_goto, awp_ret, awp_loop, awp_scope, seqK_normal, seqK_ret, seqK_exit, seqK_goto, blockK_normal, blockK_ret, blockK_goto, blockK_exit, jumpK_normal, jumpK_ret, jumpK_exit, stayK_normal, stayK_ret, stayK_exit, retK_normal, retK_ret, awl, gwl_nil, gwl_plain, gwl_guard, guardK_true, guardK_false, SplitO_true, SplitO_false, SplitC_true, SplitC_false, SplitP_true, SplitP_false, condK_some, PickK_some, pickV_some, resK_some, ne_eq, srcRows, awo, aggEq, eqF, litEq, andO, qwl, qwo, qOp, callQ_some, walkT_leaf, walkT_last, walkT_alt, oneK, retW_normal, retW_ret, cutK_normal, cutK_ret, jumpK_goto, stepOp, stepK_val, stepK_none, callK_some, pairO, pureOp, heapOp, entry, slotsOf, ev, evL, evP, evO, lk, up, St.put, St.drop, constAV, cellAV, cellsAV, plain, binV, intBin, strBin, guardBit, boolOf, fnOf, intOfAV, bound, resOf, retV, moved, rowOf, valAt, Kd.agg, AV.cells, splice, places, fillAV, rowsFill, Hp.none, Option.bind_some, Option.bind_none, Option.map_some, Option.map_none, ↓reduceIte, reduceCtorEq, Nat.reduceLT, Nat.reduceEqDiff, Nat.reduceAdd, Nat.reduceLeDiff, Nat.reducePow, Nat.reduceMul, Nat.zero_add, Nat.add_zero, List.getElem?_toArray, List.getElem?_cons_succ, List.getElem?_cons_zero, List.length_cons, List.length_nil, List.drop_succ_cons, List.drop_zero, List.drop_nil, List.take_succ_cons, List.take_zero, List.take_nil, List.cons_append, List.nil_append, List.append_nil, List.set_cons_succ, List.set_cons_zero, List.replicate_succ, List.replicate_zero, and_self, and_true, true_and, Nat.le_refl, Nat.one_ne_zero, not_false_eq_true, not_true_eq_false, true_or, or_true, false_or, or_false, Bool.not_true, Bool.not_false, ty2, ty3, ty4, ty5, ty6, ty7, ty8, ty9, ty10, ty11, ty12, ty13, ty14, ty15, ty16, ty17, ty18, ty19, ty21, ty22, ty23, ty24, ty25, ty38, ty39, nmOk39, ty44, ty45, ty46, ty47, ty48, ty50, ty51, ty52, ty54, ty55, ty56, ty57, ty58, enc, encs_length]
        refine .intro (fun hb => ?_) (fun hb => ?_)
        · have hlt : i < ks.length := by simpa using hb
          obtain ⟨x, hx⟩ : ∃ x, ks[i]? = some x := ⟨ks[i], List.getElem?_eq_getElem hlt⟩
          have g1 := encs_get ks i _ hx
          have hm : x ∈ ks := List.mem_of_getElem? hx
          have hnn : (0 : Int) ≤ (i : Int) := Int.natCast_nonneg i
          have hi1 : (i : Int) < (ks.length : Int) := by omega
          have hl7 := enc_length x
          have hsum : (us ++ lvsL (ks.take i)).length + tsz x ≤ 1000000000 := by
            have h1 := lvsL_len (ks.take i) (fun q hq => lvs_len q)
            have h2 := tszs_take_succ ks i x hx
            simp only [tsz] at hs
            simp only [List.length_append]; omega
          simp only [awp_skip, awp_region, awp_draw, awp_seq, awp_cond, awp_block, awp_exit, awp_label, awp_goto, awp_ret, awp_loop, awp_scope, seqK_normal, seqK_ret, seqK_exit, seqK_goto, blockK_normal, blockK_ret, blockK_goto, blockK_exit, jumpK_normal, jumpK_ret, jumpK_exit, stayK_normal, stayK_ret, stayK_exit, retK_normal, retK_ret, awl, gwl_nil, gwl_plain, gwl_guard, guardK_true, guardK_false, SplitO_true, SplitO_false, SplitC_true, SplitC_false, SplitP_true, SplitP_false, condK_some, PickK_some, pickV_some, resK_some, ne_eq, srcRows, awo, aggEq, eqF, litEq, andO, qwl, qwo, qOp, callQ_some, walkT_leaf, walkT_last, walkT_alt, oneK, retW_normal, retW_ret, cutK_normal, cutK_ret, jumpK_goto, stepOp, stepK_val, stepK_none, callK_some, pairO, pureOp, heapOp, entry, slotsOf, ev, evL, evP, evO, lk, up, St.put, St.drop, constAV, cellAV, cellsAV, plain, binV, intBin, strBin, guardBit, boolOf, fnOf, intOfAV, bound, resOf, retV, moved, rowOf, valAt, Kd.agg, AV.cells, splice, places, fillAV, rowsFill, Hp.none, Option.bind_some, Option.bind_none, Option.map_some, Option.map_none, ↓reduceIte, reduceCtorEq, Nat.reduceLT, Nat.reduceEqDiff, Nat.reduceAdd, Nat.reduceLeDiff, Nat.reducePow, Nat.reduceMul, Nat.zero_add, Nat.add_zero, List.getElem?_toArray, List.getElem?_cons_succ, List.getElem?_cons_zero, List.length_cons, List.length_nil, List.drop_succ_cons, List.drop_zero, List.drop_nil, List.take_succ_cons, List.take_zero, List.take_nil, List.cons_append, List.nil_append, List.append_nil, List.set_cons_succ, List.set_cons_zero, List.replicate_succ, List.replicate_zero, and_self, and_true, true_and, Nat.le_refl, Nat.one_ne_zero, not_false_eq_true, not_true_eq_false, true_or, or_true, false_or, or_false, Bool.not_true, Bool.not_false, ty2, ty3, ty4, ty5, ty6, ty7, ty8, ty9, ty10, ty11, ty12, ty13, ty14, ty15, ty16, ty17, ty18, ty19, ty21, ty22, ty23, ty24, ty25, ty38, ty39, nmOk39, ty44, ty45, ty46, ty47, ty48, ty50, ty51, ty52, ty54, ty55, ty56, ty57, ty58, encs_length, Int.toNat_natCast, g1, hnn, hi1, hl7, enc_take]
          refine CallK_of call9 (SCall.frame (ih x hm _ K' tk' N' hsum hK')) ?_
          rintro r' ⟨b1, t1, N1⟩ ⟨b', hk1, rfl⟩
          simp (disch := omega) only [awp_skip, awp_region, awp_draw, awp_seq, awp_cond, awp_block, awp_exit, awp_label, awp_goto, awp_ret, awp_loop, awp_scope, seqK_normal, seqK_ret, seqK_exit, seqK_goto, blockK_normal, blockK_ret, blockK_goto, blockK_exit, jumpK_normal, jumpK_ret, jumpK_exit, stayK_normal, stayK_ret, stayK_exit, retK_normal, retK_ret, awl, gwl_nil, gwl_plain, gwl_guard, guardK_true, guardK_false, SplitO_true, SplitO_false, SplitC_true, SplitC_false, SplitP_true, SplitP_false, condK_some, PickK_some, pickV_some, resK_some, ne_eq, srcRows, awo, aggEq, eqF, litEq, andO, qwl, qwo, qOp, callQ_some, walkT_leaf, walkT_last, walkT_alt, oneK, retW_normal, retW_ret, cutK_normal, cutK_ret, jumpK_goto, stepOp, stepK_val, stepK_none, callK_some, pairO, pureOp, heapOp, entry, slotsOf, ev, evL, evP, evO, lk, up, St.put, St.drop, constAV, cellAV, cellsAV, plain, binV, intBin, strBin, guardBit, boolOf, fnOf, intOfAV, bound, resOf, retV, moved, rowOf, valAt, Kd.agg, AV.cells, splice, places, fillAV, rowsFill, Hp.none, Option.bind_some, Option.bind_none, Option.map_some, Option.map_none, ↓reduceIte, reduceCtorEq, Nat.reduceLT, Nat.reduceEqDiff, Nat.reduceAdd, Nat.reduceLeDiff, Nat.reducePow, Nat.reduceMul, Nat.zero_add, Nat.add_zero, List.getElem?_toArray, List.getElem?_cons_succ, List.getElem?_cons_zero, List.length_cons, List.length_nil, List.drop_succ_cons, List.drop_zero, List.drop_nil, List.take_succ_cons, List.take_zero, List.take_nil, List.cons_append, List.nil_append, List.append_nil, List.set_cons_succ, List.set_cons_zero, List.replicate_succ, List.replicate_zero, and_self, and_true, true_and, Nat.le_refl, Nat.one_ne_zero, not_false_eq_true, not_true_eq_false, true_or, or_true, false_or, or_false, Bool.not_true, Bool.not_false, ty2, ty3, ty4, ty5, ty6, ty7, ty8, ty9, ty10, ty11, ty12, ty13, ty14, ty15, ty16, ty17, ty18, ty19, ty21, ty22, ty23, ty24, ty25, ty38, ty39, nmOk39, ty44, ty45, ty46, ty47, ty48, ty50, ty51, ty52, ty54, ty55, ty56, ty57, ty58, i64w]
          refine ⟨_, ks.length - (i + 1), ?_, by omega, i + 1, t1, r', N1, by omega, rfl, ?_, rfl⟩
          · exact St.le.wk (by simpa [St.le, Go.Ab.lk, enc] using hk1.lk)
          · rw [List.take_add_one, hx, Option.toList_some, lvsL_append]
            simpa [lvsL] using hk1
        · have hge : i = ks.length := by simp at hb; omega
          subst hge
          simp only [awp_skip, awp_region, awp_draw, awp_seq, awp_cond, awp_block, awp_exit, awp_label, awp_goto, awp_ret, awp_loop, awp_scope, seqK_normal, seqK_ret, seqK_exit, seqK_goto, blockK_normal, blockK_ret, blockK_goto, blockK_exit, jumpK_normal, jumpK_ret, jumpK_exit, stayK_normal, stayK_ret, stayK_exit, retK_normal, retK_ret, awl, gwl_nil, gwl_plain, gwl_guard, guardK_true, guardK_false, SplitO_true, SplitO_false, SplitC_true, SplitC_false, SplitP_true, SplitP_false, condK_some, PickK_some, pickV_some, resK_some, ne_eq, srcRows, awo, aggEq, eqF, litEq, andO, qwl, qwo, qOp, callQ_some, walkT_leaf, walkT_last, walkT_alt, oneK, retW_normal, retW_ret, cutK_normal, cutK_ret, jumpK_goto, stepOp, stepK_val, stepK_none, callK_some, pairO, pureOp, heapOp, entry, slotsOf, ev, evL, evP, evO, lk, up, St.put, St.drop, constAV, cellAV, cellsAV, plain, binV, intBin, strBin, guardBit, boolOf, fnOf, intOfAV, bound, resOf, retV, moved, rowOf, valAt, Kd.agg, AV.cells, splice, places, fillAV, rowsFill, Hp.none, Option.bind_some, Option.bind_none, Option.map_some, Option.map_none, ↓reduceIte, reduceCtorEq, Nat.reduceLT, Nat.reduceEqDiff, Nat.reduceAdd, Nat.reduceLeDiff, Nat.reducePow, Nat.reduceMul, Nat.zero_add, Nat.add_zero, List.getElem?_toArray, List.getElem?_cons_succ, List.getElem?_cons_zero, List.length_cons, List.length_nil, List.drop_succ_cons, List.drop_zero, List.drop_nil, List.take_succ_cons, List.take_zero, List.take_nil, List.cons_append, List.nil_append, List.append_nil, List.set_cons_succ, List.set_cons_zero, List.replicate_succ, List.replicate_zero, and_self, and_true, true_and, Nat.le_refl, Nat.one_ne_zero, not_false_eq_true, not_true_eq_false, true_or, or_true, false_or, or_false, Bool.not_true, Bool.not_false, ty2, ty3, ty4, ty5, ty6, ty7, ty8, ty9, ty10, ty11, ty12, ty13, ty14, ty15, ty16, ty17, ty18, ty19, ty21, ty22, ty23, ty24, ty25, ty38, ty39, nmOk39, ty44, ty45, ty46, ty47, ty48, ty50, ty51, ty52, ty54, ty55, ty56, ty57, ty58]
          refine ⟨_, St.wk.refl _, ?_⟩
          simp only [awp_skip, awp_region, awp_draw, awp_seq, awp_cond, awp_block, awp_exit, awp_label, awp_goto, awp_ret, awp_loop, awp_scope, seqK_normal, seqK_ret, seqK_exit, seqK_goto, blockK_normal, blockK_ret, blockK_goto, blockK_exit, jumpK_normal, jumpK_ret, jumpK_exit, stayK_normal, stayK_ret, stayK_exit, retK_normal, retK_ret, awl, gwl_nil, gwl_plain, gwl_guard, guardK_true, guardK_false, SplitO_true, SplitO_false, SplitC_true, SplitC_false, SplitP_true, SplitP_false, condK_some, PickK_some, pickV_some, resK_some, ne_eq, srcRows, awo, aggEq, eqF, litEq, andO, qwl, qwo, qOp, callQ_some, walkT_leaf, walkT_last, walkT_alt, oneK, retW_normal, retW_ret, cutK_normal, cutK_ret, jumpK_goto, stepOp, stepK_val, stepK_none, callK_some, pairO, pureOp, heapOp, entry, slotsOf, ev, evL, evP, evO, lk, up, St.put, St.drop, constAV, cellAV, cellsAV, plain, binV, intBin, strBin, guardBit, boolOf, fnOf, intOfAV, bound, resOf, retV, moved, rowOf, valAt, Kd.agg, AV.cells, splice, places, fillAV, rowsFill, Hp.none, Option.bind_some, Option.bind_none, Option.map_some, Option.map_none, ↓reduceIte, reduceCtorEq, Nat.reduceLT, Nat.reduceEqDiff, Nat.reduceAdd, Nat.reduceLeDiff, Nat.reducePow, Nat.reduceMul, Nat.zero_add, Nat.add_zero, List.getElem?_toArray, List.getElem?_cons_succ, List.getElem?_cons_zero, List.length_cons, List.length_nil, List.drop_succ_cons, List.drop_zero, List.drop_nil, List.take_succ_cons, List.take_zero, List.take_nil, List.cons_append, List.nil_append, List.append_nil, List.set_cons_succ, List.set_cons_zero, List.replicate_succ, List.replicate_zero, and_self, and_true, true_and, Nat.le_refl, Nat.one_ne_zero, not_false_eq_true, not_true_eq_false, true_or, or_true, false_or, or_false, Bool.not_true, Bool.not_false, ty2, ty3, ty4, ty5, ty6, ty7, ty8, ty9, ty10, ty11, ty12, ty13, ty14, ty15, ty16, ty17, ty18, ty19, ty21, ty22, ty23, ty24, ty25, ty38, ty39, nmOk39, ty44, ty45, ty46, ty47, ty48, ty50, ty51, ty52, ty54, ty55, ty56, ty57, ty58]
          rw [List.take_length] at hK'
          exact hK'
  termination_by SizeOf.sizeOf t
  decreasing_by simp_wf; have := List.sizeOf_lt_of_mem hq; omega

theorem leaves_none (t : Tr) (hs : tsz t ≤ 1000000000) : PCall Try.prog 9 [.agg (enc t), .vec [] true] (.vec (encs (lvs t)) false) := by
  refine PCall_of_SCall ((leaves_spec t [] (.vec [] true) [] 0 (by simpa using hs) (.inl ⟨rfl, rfl⟩)).mono fun r h' hK => ?_)
  rcases hK with ⟨_, rfl⟩ | ⟨t', fz, ht, rfl, _⟩
  · exact expo_full (pure_encs _)
  · have hl : (([] : List Tr) ++ lvs t).length = (encs ([] ++ lvs t)).length := (encs_length _).symm
    exact expo_own (k := ⟨encs ([] ++ lvs t), fz, 7⟩) (by rw [ht]; exact if_pos rfl) hl (pure_encs _)
end Go.Proofs.Ytlifonlohiihiaa
