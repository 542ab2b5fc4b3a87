/- Trees, and how they lie in memory: their encoding, size and count; the contract of Count. Conditions: those that each theorem names. -/
import Derived.Test.YtlifonlohiihiaaTy
import Derived.Test.YtlifonlohiihiaaScope
namespace Go.Proofs.Ytlifonlohiihiaa
open Go.Ab
set_option linter.unusedSimpArgs false
set_option linter.unusedVariables false

inductive Tr where
  | mk (kind rule alt token type : Int) (opn : Bool) (kids : List Tr)

mutual
def enc : Tr → List AV
  | .mk k r a t ty o ks => [.lit (.int .i8 k), .lit (.int .i64 r), .lit (.int .i64 a), .lit (.int .i64 t), .lit (.int .i64 ty), .lit (.bool o), .vec (encs ks) false]
def encs : List Tr → List (List AV)
  | [] => []
  | t :: l => enc t :: encs l
end
theorem encs_length : ∀ l : List Tr, (encs l).length = l.length
  | [] => rfl
  | t :: l => by simp [encs, encs_length l]
theorem enc_length (t : Tr) : (enc t).length = 7 := by cases t; rfl
theorem enc_take (t : Tr) : (enc t).take 7 = enc t := by cases t; rfl
theorem encs_get : ∀ (l : List Tr) (i : Nat) (t : Tr), l[i]? = some t → (encs l).getD i [] = enc t
  | [], i, t, h => by simp at h
  | x :: l, 0, t, h => by simp at h; subst h; rfl
  | x :: l, i + 1, t, h => by simp at h; simpa [encs] using encs_get l i t h
theorem pure_enc (t : Tr) : ∀ c ∈ enc t, Pure c := by
  match t with
  | .mk k r a t ty o ks =>
    intro c hc
    simp only [enc, List.mem_cons, List.not_mem_nil, or_false] at hc
    rcases hc with rfl | rfl | rfl | rfl | rfl | rfl | rfl
    iterate 6 exact .lit _
    refine .vec fun x hx => ?_
    have : ∀ l : List Tr, (∀ k ∈ l, ∀ c ∈ enc k, Pure c) → ∀ x ∈ encs l, ∀ c ∈ x, Pure c := by
      intro l
      induction l with
      | nil => intro _ x hx; simp [encs] at hx
      | cons y l ih =>
        intro h x hx
        simp only [encs, List.mem_cons] at hx
        rcases hx with rfl | hx
        · exact h y (by simp)
        · exact ih (fun k hk => h k (by simp [hk])) x hx
    exact this ks (fun k hk => pure_enc k) x hx
  termination_by SizeOf.sizeOf t
  decreasing_by simp_wf; have := List.sizeOf_lt_of_mem hk; omega
theorem pure_tree (t : Tr) : Pure (.agg (enc t)) := .agg (pure_enc t)

mutual
def cnt : Tr → Int
  | .mk _ _ _ _ _ _ ks => cntL 1 ks
def cntL : Int → List Tr → Int
  | n, [] => n
  | n, t :: l => cntL (min (n + cnt t) 2147483647) l
end
theorem cntL_snoc : ∀ (l : List Tr) (n : Int) (t : Tr), cntL n (l ++ [t]) = min (cntL n l + cnt t) 2147483647
  | [], n, t => by simp [cntL]
  | x :: l, n, t => by simp [cntL, cntL_snoc l]
theorem cntL_bd : ∀ (l : List Tr) (n : Int), 0 ≤ n → n ≤ 2147483647 → (∀ t ∈ l, 0 ≤ cnt t) → 0 ≤ cntL n l ∧ cntL n l ≤ 2147483647
  | [], n, h0, h1, _ => ⟨h0, h1⟩
  | x :: l, n, h0, h1, h => cntL_bd l _ (by have := h x (by simp); omega) (by omega) (fun t ht => h t (by simp [ht]))
theorem cnt_bd (t : Tr) : 0 ≤ cnt t ∧ cnt t ≤ 2147483647 := by
  match t with
  | .mk k r a t ty o ks => exact cntL_bd ks 1 (by omega) (by omega) (fun k hk => (cnt_bd k).1)
  termination_by SizeOf.sizeOf t
  decreasing_by simp_wf; have := List.sizeOf_lt_of_mem hk; omega

mutual
def tsz : Tr → Nat
  | .mk _ _ _ _ _ _ ks => 1 + tszs ks
def tszs : List Tr → Nat
  | [] => 0
  | t :: l => tsz t + tszs l
end
theorem tsz_mem : ∀ {l : List Tr} {t : Tr}, t ∈ l → tsz t ≤ tszs l
  | x :: l, t, h => by
    simp only [List.mem_cons] at h
    rcases h with rfl | h
    · simp [tszs]
    · have := tsz_mem h; simp [tszs]; omega
theorem tsz_pos (t : Tr) : 1 ≤ tsz t := by cases t; simp [tsz]
theorem tszs_len : ∀ (l : List Tr), l.length ≤ tszs l
  | [] => by simp [tszs]
  | t :: l => by have := tszs_len l; have := tsz_pos t; simp [tszs]; omega
theorem i64w {n : Int} (h : -9223372036854775808 ≤ n) (k : n ≤ 9223372036854775807) : IntKind.i64.wrap n = n := IntWalk.i64_in n ⟨h, k⟩


theorem count_spec (t : Tr) (hsz : tsz t ≤ 1000000000) : PCall Try.prog 11 [.agg (enc t)] (.lit (.int .i64 (cnt t))) := by
  match t with
  | .mk k r a tk ty o ks =>
    have ih : ∀ q ∈ ks, PCall Try.prog 11 [.agg (enc q)] (.lit (.int .i64 (cnt q))) := fun q hq => count_spec q (by simp only [tsz] at hsz; have := tsz_mem hq; omega)
    have hlen : ks.length ≤ 1000000000 := by simp only [tsz] at hsz; have := tszs_len ks; omega
    refine PCall_intro Try.func11 rfl Try.ntmps11 (rs := [.tmp 2]) rfl (by simp) ?_
    simp only [awp_skip, awp_region, awp_draw, awp_seq, awp_cond, awp_block, awp_exit, awp_label, awp_goto, awp_ret, awp_loop, awp_scope, seqK_normal, seqK_ret, seqK_exit, seqK_goto, blockK_normal, blockK_ret, blockK_goto, blockK_exit, jumpK_normal, jumpK_ret, jumpK_exit, stayK_normal, stayK_ret, stayK_exit, retK_normal, retK_ret, awl, gwl_nil, gwl_plain, gwl_guard, guardK_true, guardK_false, SplitO_true, SplitO_false, SplitC_true, SplitC_false, SplitP_true, SplitP_false, condK_some, PickK_some, pickV_some, resK_some, ne_eq, srcRows, awo, aggEq, eqF, litEq, andO, qwl, qwo, qOp, callQ_some, walkT_leaf, walkT_last, walkT_alt, oneK, retW_normal, retW_ret, cutK_normal, cutK_ret, jumpK_goto, stepOp, stepK_val, stepK_none, callK_some, pairO, pureOp, heapOp, entry, slotsOf, ev, evL, evP, evO, lk, up, St.put, St.drop, constAV, cellAV, cellsAV, plain, binV, intBin, strBin, guardBit, boolOf, fnOf, intOfAV, bound, resOf, retV, moved, rowOf, valAt, Kd.agg, AV.cells, splice, places, fillAV, rowsFill, Hp.none, Option.bind_some, Option.bind_none, Option.map_some, Option.map_none, ↓reduceIte, reduceCtorEq, Nat.reduceLT, Nat.reduceEqDiff, Nat.reduceAdd, Nat.reduceLeDiff, Nat.reducePow, Nat.reduceMul, Nat.zero_add, Nat.add_zero, List.getElem?_toArray, List.getElem?_cons_succ, List.getElem?_cons_zero, List.length_cons, List.length_nil, List.drop_succ_cons, List.drop_zero, List.drop_nil, List.take_succ_cons, List.take_zero, List.take_nil, List.cons_append, List.nil_append, List.append_nil, List.set_cons_succ, List.set_cons_zero, List.replicate_succ, List.replicate_zero, and_self, and_true, true_and, Nat.le_refl, Nat.one_ne_zero, not_false_eq_true, not_true_eq_false, true_or, or_true, false_or, or_false, Bool.not_true, Bool.not_false]
    refine aw_loop (fun n σ => ∃ i, i ≤ ks.length ∧ n = ks.length - i ∧ σ = ⟨[(1, .ptr 0 0), (3, .lit (.int .i64 (cntL 1 (ks.take i)))), (4, .lit (.int .i64 i))], ⟨[(0, enc (.mk k r a tk ty o ks))], [], 1⟩, 22⟩) (σ' := ⟨[(1, .ptr 0 0), (3, .lit (.int .i64 1)), (4, .lit (.int .i64 0))], ⟨[(0, enc (.mk k r a tk ty o ks))], [], 1⟩, 22⟩) (St.le.wk (by simp [St.le, lk])) ks.length ⟨0, by simp, by simp, by simp [cntL]⟩ ?_
    rintro n σ ⟨i, hi, rfl, rfl⟩
    simp only [awp_skip, awp_region, awp_draw, awp_seq, awp_cond, awp_block, awp_exit, awp_label, awp_goto, awp_ret, awp_loop, awp_scope, seqK_normal, seqK_ret, seqK_exit, seqK_goto, blockK_normal, blockK_ret, blockK_goto, blockK_exit, jumpK_normal, jumpK_ret, jumpK_exit, stayK_normal, stayK_ret, stayK_exit, retK_normal, retK_ret, awl, gwl_nil, gwl_plain, gwl_guard, guardK_true, guardK_false, SplitO_true, SplitO_false, SplitC_true, SplitC_false, SplitP_true, SplitP_false, condK_some, PickK_some, pickV_some, resK_some, ne_eq, srcRows, awo, aggEq, eqF, litEq, andO, qwl, qwo, qOp, callQ_some, walkT_leaf, walkT_last, walkT_alt, oneK, retW_normal, retW_ret, cutK_normal, cutK_ret, jumpK_goto, stepOp, stepK_val, stepK_none, callK_some, pairO, pureOp, heapOp, entry, slotsOf, ev, evL, evP, evO, lk, up, St.put, St.drop, constAV, cellAV, cellsAV, plain, binV, intBin, strBin, guardBit, boolOf, fnOf, intOfAV, bound, resOf, retV, moved, rowOf, valAt, Kd.agg, AV.cells, splice, places, fillAV, rowsFill, Hp.none, Option.bind_some, Option.bind_none, Option.map_some, Option.map_none, ↓reduceIte, reduceCtorEq, Nat.reduceLT, Nat.reduceEqDiff, Nat.reduceAdd, Nat.reduceLeDiff, Nat.reducePow, Nat.reduceMul, Nat.zero_add, Nat.add_zero, List.getElem?_toArray, List.getElem?_cons_succ, List.getElem?_cons_zero, List.length_cons, List.length_nil, List.drop_succ_cons, List.drop_zero, List.drop_nil, List.take_succ_cons, List.take_zero, List.take_nil, List.cons_append, List.nil_append, List.append_nil, List.set_cons_succ, List.set_cons_zero, List.replicate_succ, List.replicate_zero, and_self, and_true, true_and, Nat.le_refl, Nat.one_ne_zero, not_false_eq_true, not_true_eq_false, true_or, or_true, false_or, or_false, Bool.not_true, Bool.not_false, enc, ty23, ty25, ty3, encs_length]
    refine .intro (fun h => ?_) (fun h => ?_)
    · have hlt : i < ks.length := by simpa using h
      obtain ⟨kid, hkid⟩ : ∃ kid, ks[i]? = some kid := ⟨ks[i], List.getElem?_eq_getElem hlt⟩
      have hget := encs_get ks i kid hkid
      have hmem : kid ∈ ks := List.mem_of_getElem? hkid
      have hnn : (0 : Int) ≤ (i : Int) := Int.natCast_nonneg i
      have hlt' : (i : Int) < (ks.length : Int) := by omega
      have hl7 := enc_length kid
      have hbk := cnt_bd kid
      have hbl := cntL_bd (ks.take i) 1 (by omega) (by omega) (fun t _ => (cnt_bd t).1)
      simp only [awp_skip, awp_region, awp_draw, awp_seq, awp_cond, awp_block, awp_exit, awp_label, awp_goto, awp_ret, awp_loop, awp_scope, seqK_normal, seqK_ret, seqK_exit, seqK_goto, blockK_normal, blockK_ret, blockK_goto, blockK_exit, jumpK_normal, jumpK_ret, jumpK_exit, stayK_normal, stayK_ret, stayK_exit, retK_normal, retK_ret, awl, gwl_nil, gwl_plain, gwl_guard, guardK_true, guardK_false, SplitO_true, SplitO_false, SplitC_true, SplitC_false, SplitP_true, SplitP_false, condK_some, PickK_some, pickV_some, resK_some, ne_eq, srcRows, awo, aggEq, eqF, litEq, andO, qwl, qwo, qOp, callQ_some, walkT_leaf, walkT_last, walkT_alt, oneK, retW_normal, retW_ret, cutK_normal, cutK_ret, jumpK_goto, stepOp, stepK_val, stepK_none, callK_some, pairO, pureOp, heapOp, entry, slotsOf, ev, evL, evP, evO, lk, up, St.put, St.drop, constAV, cellAV, cellsAV, plain, binV, intBin, strBin, guardBit, boolOf, fnOf, intOfAV, bound, resOf, retV, moved, rowOf, valAt, Kd.agg, AV.cells, splice, places, fillAV, rowsFill, Hp.none, Option.bind_some, Option.bind_none, Option.map_some, Option.map_none, ↓reduceIte, reduceCtorEq, Nat.reduceLT, Nat.reduceEqDiff, Nat.reduceAdd, Nat.reduceLeDiff, Nat.reducePow, Nat.reduceMul, Nat.zero_add, Nat.add_zero, List.getElem?_toArray, List.getElem?_cons_succ, List.getElem?_cons_zero, List.length_cons, List.length_nil, List.drop_succ_cons, List.drop_zero, List.drop_nil, List.take_succ_cons, List.take_zero, List.take_nil, List.cons_append, List.nil_append, List.append_nil, List.set_cons_succ, List.set_cons_zero, List.replicate_succ, List.replicate_zero, and_self, and_true, true_and, Nat.le_refl, Nat.one_ne_zero, not_false_eq_true, not_true_eq_false, true_or, or_true, false_or, or_false, Bool.not_true, Bool.not_false, ty23, ty25, ty3, encs_length, Int.toNat_natCast, hget, hnn, hlt', hl7, enc_take]
      refine CallK_pure call11 (ih kid hmem) (by simpa using pure_tree kid) (.lit _) ?_
      simp (disch := omega) only [awp_skip, awp_region, awp_draw, awp_seq, awp_cond, awp_block, awp_exit, awp_label, awp_goto, awp_ret, awp_loop, awp_scope, seqK_normal, seqK_ret, seqK_exit, seqK_goto, blockK_normal, blockK_ret, blockK_goto, blockK_exit, jumpK_normal, jumpK_ret, jumpK_exit, stayK_normal, stayK_ret, stayK_exit, retK_normal, retK_ret, awl, gwl_nil, gwl_plain, gwl_guard, guardK_true, guardK_false, SplitO_true, SplitO_false, SplitC_true, SplitC_false, SplitP_true, SplitP_false, condK_some, PickK_some, pickV_some, resK_some, ne_eq, srcRows, awo, aggEq, eqF, litEq, andO, qwl, qwo, qOp, callQ_some, walkT_leaf, walkT_last, walkT_alt, oneK, retW_normal, retW_ret, cutK_normal, cutK_ret, jumpK_goto, stepOp, stepK_val, stepK_none, callK_some, pairO, pureOp, heapOp, entry, slotsOf, ev, evL, evP, evO, lk, up, St.put, St.drop, constAV, cellAV, cellsAV, plain, binV, intBin, strBin, guardBit, boolOf, fnOf, intOfAV, bound, resOf, retV, moved, rowOf, valAt, Kd.agg, AV.cells, splice, places, fillAV, rowsFill, Hp.none, Option.bind_some, Option.bind_none, Option.map_some, Option.map_none, ↓reduceIte, reduceCtorEq, Nat.reduceLT, Nat.reduceEqDiff, Nat.reduceAdd, Nat.reduceLeDiff, Nat.reducePow, Nat.reduceMul, Nat.zero_add, Nat.add_zero, List.getElem?_toArray, List.getElem?_cons_succ, List.getElem?_cons_zero, List.length_cons, List.length_nil, List.drop_succ_cons, List.drop_zero, List.drop_nil, List.take_succ_cons, List.take_zero, List.take_nil, List.cons_append, List.nil_append, List.append_nil, List.set_cons_succ, List.set_cons_zero, List.replicate_succ, List.replicate_zero, and_self, and_true, true_and, Nat.le_refl, Nat.one_ne_zero, not_false_eq_true, not_true_eq_false, true_or, or_true, false_or, or_false, Bool.not_true, Bool.not_false, ty3, i64w]
      refine ⟨_, ks.length - (i + 1), ?_, by omega, i + 1, by omega, rfl, rfl⟩
      have hsn : cntL 1 (ks.take (i + 1)) = if 2147483647 < cntL 1 (ks.take i) + cnt kid then 2147483647 else cntL 1 (ks.take i) + cnt kid := by
        rw [List.take_add_one, hkid, Option.toList_some, cntL_snoc]
        split <;> omega
      exact St.le.wk (by simp [St.le, lk, hsn, enc])
    · have hge : i = ks.length := by simp at h; omega
      subst hge
      simp only [awp_skip, awp_region, awp_draw, awp_seq, awp_cond, awp_block, awp_exit, awp_label, awp_goto, awp_ret, awp_loop, awp_scope, seqK_normal, seqK_ret, seqK_exit, seqK_goto, blockK_normal, blockK_ret, blockK_goto, blockK_exit, jumpK_normal, jumpK_ret, jumpK_exit, stayK_normal, stayK_ret, stayK_exit, retK_normal, retK_ret, awl, gwl_nil, gwl_plain, gwl_guard, guardK_true, guardK_false, SplitO_true, SplitO_false, SplitC_true, SplitC_false, SplitP_true, SplitP_false, condK_some, PickK_some, pickV_some, resK_some, ne_eq, srcRows, awo, aggEq, eqF, litEq, andO, qwl, qwo, qOp, callQ_some, walkT_leaf, walkT_last, walkT_alt, oneK, retW_normal, retW_ret, cutK_normal, cutK_ret, jumpK_goto, stepOp, stepK_val, stepK_none, callK_some, pairO, pureOp, heapOp, entry, slotsOf, ev, evL, evP, evO, lk, up, St.put, St.drop, constAV, cellAV, cellsAV, plain, binV, intBin, strBin, guardBit, boolOf, fnOf, intOfAV, bound, resOf, retV, moved, rowOf, valAt, Kd.agg, AV.cells, splice, places, fillAV, rowsFill, Hp.none, Option.bind_some, Option.bind_none, Option.map_some, Option.map_none, ↓reduceIte, reduceCtorEq, Nat.reduceLT, Nat.reduceEqDiff, Nat.reduceAdd, Nat.reduceLeDiff, Nat.reducePow, Nat.reduceMul, Nat.zero_add, Nat.add_zero, List.getElem?_toArray, List.getElem?_cons_succ, List.getElem?_cons_zero, List.length_cons, List.length_nil, List.drop_succ_cons, List.drop_zero, List.drop_nil, List.take_succ_cons, List.take_zero, List.take_nil, List.cons_append, List.nil_append, List.append_nil, List.set_cons_succ, List.set_cons_zero, List.replicate_succ, List.replicate_zero, and_self, and_true, true_and, Nat.le_refl, Nat.one_ne_zero, not_false_eq_true, not_true_eq_false, true_or, or_true, false_or, or_false, Bool.not_true, Bool.not_false, List.take_length]
      exact expo_pure (.lit _)
  termination_by SizeOf.sizeOf t
  decreasing_by simp_wf; have := List.sizeOf_lt_of_mem hq; omega
end Go.Proofs.Ytlifonlohiihiaa
