/- Contract: two sets of stacks joined. Conditions: those that the theorem names. -/
import Derived.Test.YtfnmdmadaljjkaaXzz
import Derived.Test.YtfnmdmadaljjkaaSa
section
namespace Go.Proofs.Ytfnmdmadaljjkaa
open Go.Ab
set_option linter.unusedSimpArgs false
set_option linter.unusedVariables false
set_option maxRecDepth 20000
set_option maxHeartbeats 4000000

theorem join_false (n m : Nat) (hnm : n + m ≤ 2000000000) (b2 : Bool) (ws vs : List Wy) (ha : Wf (.mk false ws)) (hb : Wf (.mk b2 vs)) (lw : ws.length ≤ n) (lv : vs.length ≤ m)
    (ih : ∀ w ∈ ws, ∀ v ∈ vs, KCall Try.prog 46 [encT w.t, encT v.t, .mp 0] (encT (joinTr w.t v.t))) :
    KCall Try.prog 46 [encT (.mk false ws), encT (.mk b2 vs), .mp 0] (encT (joinTr (.mk false ws) (.mk b2 vs))) := by
  refine KCall_of (SCall_intro Try.func46 rfl Try.ntmps46 (rs := [.tmp 6]) rfl (by simp) ?_)
  simp -implicitDefEqProofs only [awl, ne_eq, srcRows, awo, aggEq, eqF, litEq, andO, qwl, qwo, Go.Ab.qOp, lop, oneK, stepOp, pairO, pureOp, heapOp, entry, slotsOf, ev, evL, evP, evO, lk, up, St.put, St.drop, constAV, cellAV, cellsAV, plain, binV, nilCmp, intBin, strBin, guardBit, boolOf, fnOf, intOfAV, bound, resOf, retV, moved, rowOf, valAt, Kd.agg, AV.cells, splice, places, fillAV, rowsFill, Hp.none, ↓reduceIte, reduceCtorEq, Nat.reduceLT, Nat.reduceEqDiff, Nat.reduceAdd, Nat.reduceLeDiff, Nat.reducePow, Nat.reduceMul, Yzz, Xzz, Yzy, tyW, encT_eq, encWs_map]
  refine stepK_eql_np ptrNode (.inr ⟨_, rfl⟩) (.inr ⟨_, rfl⟩) rfl rfl fun q hq => ?_
  cases q
  · simp -implicitDefEqProofs only [awl, ne_eq, srcRows, awo, aggEq, eqF, litEq, andO, qwl, qwo, Go.Ab.qOp, lop, oneK, stepOp, pairO, pureOp, heapOp, entry, slotsOf, ev, evL, evP, evO, lk, up, St.put, St.drop, constAV, cellAV, cellsAV, plain, binV, nilCmp, intBin, strBin, guardBit, boolOf, fnOf, intOfAV, bound, resOf, retV, moved, rowOf, valAt, Kd.agg, AV.cells, splice, places, fillAV, rowsFill, Hp.none, ↓reduceIte, reduceCtorEq, Nat.reduceLT, Nat.reduceEqDiff, Nat.reduceAdd, Nat.reduceLeDiff, Nat.reducePow, Nat.reduceMul, Yzz, Xzz, Yzy, tyW]
    refine stepK_lookup (tag := 0) (ka := .agg [encT (.mk false ws), encT (.mk b2 vs)]) (za := .lit (.pointer none)) (zv := .pointer none) (S := isPP) rfl (.pair pairNode) (fun _ _ => cinv0) rfl (fun g => .lit rfl) rfl (by simp only [encT_eq, encWs_map]; rfl) (isPP_T _ _) ?_ ?_
    · simp -implicitDefEqProofs only [awl, ne_eq, srcRows, awo, aggEq, eqF, litEq, andO, qwl, qwo, Go.Ab.qOp, lop, oneK, stepOp, pairO, pureOp, heapOp, entry, slotsOf, ev, evL, evP, evO, lk, up, St.put, St.drop, constAV, cellAV, cellsAV, plain, binV, nilCmp, intBin, strBin, guardBit, boolOf, fnOf, intOfAV, bound, resOf, retV, moved, rowOf, valAt, Kd.agg, AV.cells, splice, places, fillAV, rowsFill, Hp.none, ↓reduceIte, reduceCtorEq, Nat.reduceLT, Nat.reduceEqDiff, Nat.reduceAdd, Nat.reduceLeDiff, Nat.reducePow, Nat.reduceMul, Yzz, Xzz, Yzy, tyW, Bool.true_or, Bool.false_or, Bool.not_true, Bool.not_false]
      have m0 : lk (⟨[], [], 0⟩ : Hp).boxes 0 = none := rfl
      refine aw_forE (joinWs ws vs).length 1 (jnS b2 false b2 ws vs) (JnI ws vs) (Nat.le_refl _) (0, 0, []) (St.wk.cp (St.wk_slots1 (by simp [lk]) (by simp [lk, grA]) (by simp [lk, grT]))) ⟨rfl, Nat.zero_le _, Nat.zero_le _, rfl⟩ ?_ ?_
      · rintro k ⟨i, j, r⟩ hk ⟨hl, hi, hj, he⟩
        simp only at hl hi hj he
        have ncast : ∀ n : Nat, (0 : Int) ≤ (n : Int) := Int.natCast_nonneg
        have hkk : k < ws.length + vs.length := by have := joinWs_len_le ws vs; omega
        have hfit0 : fits 1 24 := by decide
        cases r with
        | nil =>
          rcases Nat.lt_or_ge i ws.length with hi' | hi'
          · have i1 : (i : Int) < (ws.length : Int) := by omega
            have i3 : ((i : Int) == (ws.length : Int)) = false := by rw [beq_eq_false_iff_ne]; omega
            obtain ⟨w, hw⟩ : ∃ w, ws[i]? = some w := ⟨_, List.getElem?_eq_getElem hi'⟩
            have gw := map_getD encW hw
            have hwm : w ∈ ws := List.mem_of_getElem? hw
            have dw : ws.drop i = w :: ws.drop (i + 1) := by rw [List.drop_eq_getElem_cons hi', (List.getElem?_eq_some_iff.1 hw).2]
            rcases w with ⟨s, l, t⟩
            rcases Nat.lt_or_ge j vs.length with hj' | hj'
            · have j1 : (j : Int) < (vs.length : Int) := by omega
              have j3 : ((j : Int) == (vs.length : Int)) = false := by rw [beq_eq_false_iff_ne]; omega
              obtain ⟨v, hv⟩ : ∃ v, vs[j]? = some v := ⟨_, List.getElem?_eq_getElem hj'⟩
              have gv := map_getD encW hv
              have hvm : v ∈ vs := List.mem_of_getElem? hv
              have dv : vs.drop j = v :: vs.drop (j + 1) := by rw [List.drop_eq_getElem_cons hj', (List.getElem?_eq_some_iff.1 hv).2]
              rcases v with ⟨s', l', t'⟩
              rw [dw, dv, joinWs_cons] at he
              have ec : cmpF s l s' l' = cmpW (.mk s l t) (.mk s' l' t') := rfl
              simp -implicitDefEqProofs only [awl, ne_eq, srcRows, awo, aggEq, eqF, litEq, andO, qwl, qwo, Go.Ab.qOp, lop, oneK, stepOp, pairO, pureOp, heapOp, entry, slotsOf, ev, evL, evP, evO, lk, up, St.put, St.drop, constAV, cellAV, cellsAV, plain, binV, nilCmp, intBin, strBin, guardBit, boolOf, fnOf, intOfAV, bound, resOf, retV, moved, rowOf, valAt, Kd.agg, AV.cells, splice, places, fillAV, rowsFill, Hp.none, ↓reduceIte, reduceCtorEq, Nat.reduceLT, Nat.reduceEqDiff, Nat.reduceAdd, Nat.reduceLeDiff, Nat.reducePow, Nat.reduceMul, Yzz, Xzz, Yzy, tyW, jnS, List.map_nil, grA_nil, grT_nil, grN_nil, List.length_map, decide_true, decide_false, Bool.not_true, Bool.not_false, ncast, Int.toNat_natCast, i1, i3, j1, j3, gw, gv]
              refine aw_wk (σ' := jnS b2 false b2 ws vs k (i, j, [])) (St.wk_slots1 (by simp [lk]) (by simp [lk, grA]) (fun t => rfl)) ?_
              simp only [jnS, List.map_nil, grA_nil, grT_nil, grN_nil]
              refine aw_quietN (n := 182) rfl (by decide) mixed ?_
              simp -implicitDefEqProofs only [awl, ne_eq, srcRows, awo, aggEq, eqF, litEq, andO, qwl, qwo, Go.Ab.qOp, lop, oneK, stepOp, pairO, pureOp, heapOp, entry, slotsOf, ev, evL, evP, evO, lk, up, St.put, St.drop, constAV, cellAV, cellsAV, plain, binV, nilCmp, intBin, strBin, guardBit, boolOf, fnOf, intOfAV, bound, resOf, retV, moved, rowOf, valAt, Kd.agg, AV.cells, splice, places, fillAV, rowsFill, Hp.none, ↓reduceIte, reduceCtorEq, Nat.reduceLT, Nat.reduceEqDiff, Nat.reduceAdd, Nat.reduceLeDiff, Nat.reducePow, Nat.reduceMul, Yzz, Xzz, Yzy, tyW, jnS, List.map_nil, grA_nil, grT_nil, grN_nil, List.length_map, decide_true, decide_false, Bool.not_true, Bool.not_false, ncast, Int.toNat_natCast, i1, i3, j1, j3, gw, gv, encW, List.take]
              refine CallQ_pure call39 (spec39 s l s' l') (by simp [Pure.lit, Pure.agg]) (.lit _) ?_
              simp -implicitDefEqProofs only [awl, ne_eq, srcRows, awo, aggEq, eqF, litEq, andO, qwl, qwo, Go.Ab.qOp, lop, oneK, stepOp, pairO, pureOp, heapOp, entry, slotsOf, ev, evL, evP, evO, lk, up, St.put, St.drop, constAV, cellAV, cellsAV, plain, binV, nilCmp, intBin, strBin, guardBit, boolOf, fnOf, intOfAV, bound, resOf, retV, moved, rowOf, valAt, Kd.agg, AV.cells, splice, places, fillAV, rowsFill, Hp.none, ↓reduceIte, reduceCtorEq, Nat.reduceLT, Nat.reduceEqDiff, Nat.reduceAdd, Nat.reduceLeDiff, Nat.reducePow, Nat.reduceMul, Yzz, Xzz, Yzy, tyW]
              refine .intro (fun hc => ?_) (fun hc => ?_)
              · have hc : cmpW (.mk s l t) (.mk s' l' t') < 0 := by rw [← ec]; exact of_decide_eq_true hc
                rw [if_pos hc] at he
                simp -implicitDefEqProofs only [awl, ne_eq, srcRows, awo, aggEq, eqF, litEq, andO, qwl, qwo, Go.Ab.qOp, lop, oneK, stepOp, pairO, pureOp, heapOp, entry, slotsOf, ev, evL, evP, evO, lk, up, St.put, St.drop, constAV, cellAV, cellsAV, plain, binV, nilCmp, intBin, strBin, guardBit, boolOf, fnOf, intOfAV, bound, resOf, retV, moved, rowOf, valAt, Kd.agg, AV.cells, splice, places, fillAV, rowsFill, Hp.none, ↓reduceIte, reduceCtorEq, Nat.reduceLT, Nat.reduceEqDiff, Nat.reduceAdd, Nat.reduceLeDiff, Nat.reducePow, Nat.reduceMul, Yzz, Xzz, Yzy, tyW]
                refine aw_wk (σ' := jnS b2 false b2 ws vs k (i, j, [])) (St.wk_slots1 (by simp [lk]) (by simp [lk, grA]) (fun t => rfl)) ?_
                simp only [jnS, List.map_nil, grA_nil, grT_nil, grN_nil]
                refine aw_drawG (n := 182) (σ' := jnS b2 false b2 ws vs 0 (i, j, [.mk s l t])) 2 13 (.alt 14 (.alt 15 (.alt 16 .leaf .nil) .nil) .nil) rfl rfl (by decide) (by decide) (by decide) mixed (by kernel_rfl) (by decide) ?_ ?_
                · simp -implicitDefEqProofs only [awl, ne_eq, srcRows, awo, aggEq, eqF, litEq, andO, qwl, qwo, Go.Ab.qOp, lop, oneK, stepOp, pairO, pureOp, heapOp, entry, slotsOf, ev, evL, evP, evO, lk, up, St.put, St.drop, constAV, cellAV, cellsAV, plain, binV, nilCmp, intBin, strBin, guardBit, boolOf, fnOf, intOfAV, bound, resOf, retV, moved, rowOf, valAt, Kd.agg, AV.cells, splice, places, fillAV, rowsFill, Hp.none, ↓reduceIte, reduceCtorEq, Nat.reduceLT, Nat.reduceEqDiff, Nat.reduceAdd, Nat.reduceLeDiff, Nat.reducePow, Nat.reduceMul, Yzz, Xzz, Yzy, tyW, jnS, List.map_nil, grA_nil, grT_nil, grN_nil, List.length_map, decide_true, decide_false, Bool.not_true, Bool.not_false, ncast, Int.toNat_natCast, i1, i3, j1, j3, gw, gv, encW, List.take, List.mem_singleton, forall_eq, List.not_mem_nil, false_imp_iff, implies_true, hfit0]
                  exact St.wk.cp (St.le.wk (by simp [St.le, lk, jnS, encW, grA, grT, grN, List.map_append]))
                · simp -implicitDefEqProofs (disch := omega) only [awl, ne_eq, srcRows, awo, aggEq, eqF, litEq, andO, qwl, qwo, Go.Ab.qOp, lop, oneK, stepOp, pairO, pureOp, heapOp, entry, slotsOf, ev, evL, evP, evO, lk, up, St.put, St.drop, constAV, cellAV, cellsAV, plain, binV, nilCmp, intBin, strBin, guardBit, boolOf, fnOf, intOfAV, bound, resOf, retV, moved, rowOf, valAt, Kd.agg, AV.cells, splice, places, fillAV, rowsFill, Hp.none, ↓reduceIte, reduceCtorEq, Nat.reduceLT, Nat.reduceEqDiff, Nat.reduceAdd, Nat.reduceLeDiff, Nat.reducePow, Nat.reduceMul, Yzz, Xzz, Yzy, tyW, jnS, i64w]
                  exact ⟨(i + 1, j, [.mk s l t]), ⟨by simp [← hl], by show i + 1 ≤ _; omega, by show j ≤ _; omega, by rw [he, dv]; simp⟩, St.wk.cp (St.wk_slots (by simp [lk]))⟩
              · have hn : ¬ cmpW (.mk s l t) (.mk s' l' t') < 0 := by rw [← ec]; exact of_decide_eq_false hc
                rw [if_neg hn] at he
                simp -implicitDefEqProofs only [awl, ne_eq, srcRows, awo, aggEq, eqF, litEq, andO, qwl, qwo, Go.Ab.qOp, lop, oneK, stepOp, pairO, pureOp, heapOp, entry, slotsOf, ev, evL, evP, evO, lk, up, St.put, St.drop, constAV, cellAV, cellsAV, plain, binV, nilCmp, intBin, strBin, guardBit, boolOf, fnOf, intOfAV, bound, resOf, retV, moved, rowOf, valAt, Kd.agg, AV.cells, splice, places, fillAV, rowsFill, Hp.none, ↓reduceIte, reduceCtorEq, Nat.reduceLT, Nat.reduceEqDiff, Nat.reduceAdd, Nat.reduceLeDiff, Nat.reducePow, Nat.reduceMul, Yzz, Xzz, Yzy, tyW]
                refine .intro (fun hc => ?_) (fun hc => ?_)
                · have hc : cmpW (.mk s l t) (.mk s' l' t') > 0 := by rw [← ec]; exact of_decide_eq_true hc
                  rw [if_pos hc] at he
                  simp -implicitDefEqProofs only [awl, ne_eq, srcRows, awo, aggEq, eqF, litEq, andO, qwl, qwo, Go.Ab.qOp, lop, oneK, stepOp, pairO, pureOp, heapOp, entry, slotsOf, ev, evL, evP, evO, lk, up, St.put, St.drop, constAV, cellAV, cellsAV, plain, binV, nilCmp, intBin, strBin, guardBit, boolOf, fnOf, intOfAV, bound, resOf, retV, moved, rowOf, valAt, Kd.agg, AV.cells, splice, places, fillAV, rowsFill, Hp.none, ↓reduceIte, reduceCtorEq, Nat.reduceLT, Nat.reduceEqDiff, Nat.reduceAdd, Nat.reduceLeDiff, Nat.reducePow, Nat.reduceMul, Yzz, Xzz, Yzy, tyW]
                  refine aw_wk (σ' := jnS b2 false b2 ws vs k (i, j, [])) (St.wk_slots1 (by simp [lk]) (by simp [lk, grA]) (fun t => rfl)) ?_
                  simp only [jnS, List.map_nil, grA_nil, grT_nil, grN_nil]
                  refine aw_drawG (n := 182) (σ' := jnS b2 false b2 ws vs 0 (i, j, [.mk s' l' t'])) 2 13 (.alt 14 (.alt 15 (.alt 16 .leaf .nil) .nil) .nil) rfl rfl (by decide) (by decide) (by decide) mixed (by kernel_rfl) (by decide) ?_ ?_
                  · simp -implicitDefEqProofs only [awl, ne_eq, srcRows, awo, aggEq, eqF, litEq, andO, qwl, qwo, Go.Ab.qOp, lop, oneK, stepOp, pairO, pureOp, heapOp, entry, slotsOf, ev, evL, evP, evO, lk, up, St.put, St.drop, constAV, cellAV, cellsAV, plain, binV, nilCmp, intBin, strBin, guardBit, boolOf, fnOf, intOfAV, bound, resOf, retV, moved, rowOf, valAt, Kd.agg, AV.cells, splice, places, fillAV, rowsFill, Hp.none, ↓reduceIte, reduceCtorEq, Nat.reduceLT, Nat.reduceEqDiff, Nat.reduceAdd, Nat.reduceLeDiff, Nat.reducePow, Nat.reduceMul, Yzz, Xzz, Yzy, tyW, jnS, List.map_nil, grA_nil, grT_nil, grN_nil, List.length_map, decide_true, decide_false, Bool.not_true, Bool.not_false, ncast, Int.toNat_natCast, i1, i3, j1, j3, gw, gv, encW, List.take, List.mem_singleton, forall_eq, List.not_mem_nil, false_imp_iff, implies_true, hfit0]
                    exact St.wk.cp (St.le.wk (by simp [St.le, lk, jnS, encW, grA, grT, grN, List.map_append]))
                  · simp -implicitDefEqProofs (disch := omega) only [awl, ne_eq, srcRows, awo, aggEq, eqF, litEq, andO, qwl, qwo, Go.Ab.qOp, lop, oneK, stepOp, pairO, pureOp, heapOp, entry, slotsOf, ev, evL, evP, evO, lk, up, St.put, St.drop, constAV, cellAV, cellsAV, plain, binV, nilCmp, intBin, strBin, guardBit, boolOf, fnOf, intOfAV, bound, resOf, retV, moved, rowOf, valAt, Kd.agg, AV.cells, splice, places, fillAV, rowsFill, Hp.none, ↓reduceIte, reduceCtorEq, Nat.reduceLT, Nat.reduceEqDiff, Nat.reduceAdd, Nat.reduceLeDiff, Nat.reducePow, Nat.reduceMul, Yzz, Xzz, Yzy, tyW, jnS, i64w]
                    exact ⟨(i, j + 1, [.mk s' l' t']), ⟨by simp [← hl], by show i ≤ _; omega, by show j + 1 ≤ _; omega, by rw [he, dw]; simp⟩, St.wk.cp (St.wk_slots (by simp [lk]))⟩
                · have hn : ¬ cmpW (.mk s l t) (.mk s' l' t') > 0 := by rw [← ec]; exact of_decide_eq_false hc
                  rw [if_neg hn] at he
                  simp -implicitDefEqProofs only [awl, ne_eq, srcRows, awo, aggEq, eqF, litEq, andO, qwl, qwo, Go.Ab.qOp, lop, oneK, stepOp, pairO, pureOp, heapOp, entry, slotsOf, ev, evL, evP, evO, lk, up, St.put, St.drop, constAV, cellAV, cellsAV, plain, binV, nilCmp, intBin, strBin, guardBit, boolOf, fnOf, intOfAV, bound, resOf, retV, moved, rowOf, valAt, Kd.agg, AV.cells, splice, places, fillAV, rowsFill, Hp.none, ↓reduceIte, reduceCtorEq, Nat.reduceLT, Nat.reduceEqDiff, Nat.reduceAdd, Nat.reduceLeDiff, Nat.reducePow, Nat.reduceMul, Yzz, Xzz, Yzy, tyW]
                  refine aw_wk (σ' := jnS b2 false b2 ws vs k (i, j, [])) (St.wk_slots1 (by simp [lk]) (by simp [lk, grA]) (fun t => rfl)) ?_
                  simp only [jnS, List.map_nil, grA_nil, grT_nil, grN_nil]
                  refine aw_drawG (n := 182) (σ' := jnS b2 false b2 ws vs 0 (i, j, [.mk s l (joinTr t t')])) 2 33 (.alt 34 (.alt 35 (.alt 36 .leaf .nil) .nil) .nil) rfl rfl (by decide) (by decide) (by decide) mixed (by kernel_rfl) (by decide) ?_ ?_
                  · simp -implicitDefEqProofs only [awl, ne_eq, srcRows, awo, aggEq, eqF, litEq, andO, qwl, qwo, Go.Ab.qOp, lop, oneK, stepOp, pairO, pureOp, heapOp, entry, slotsOf, ev, evL, evP, evO, lk, up, St.put, St.drop, constAV, cellAV, cellsAV, plain, binV, nilCmp, intBin, strBin, guardBit, boolOf, fnOf, intOfAV, bound, resOf, retV, moved, rowOf, valAt, Kd.agg, AV.cells, splice, places, fillAV, rowsFill, Hp.none, ↓reduceIte, reduceCtorEq, Nat.reduceLT, Nat.reduceEqDiff, Nat.reduceAdd, Nat.reduceLeDiff, Nat.reducePow, Nat.reduceMul, Yzz, Xzz, Yzy, tyW, jnS, List.map_nil, grA_nil, grT_nil, grN_nil, List.length_map, decide_true, decide_false, Bool.not_true, Bool.not_false, ncast, Int.toNat_natCast, i1, i3, j1, j3, gw, gv, encW, List.take, List.mem_singleton, forall_eq, List.not_mem_nil, false_imp_iff, implies_true, hfit0]
                    refine CallQ_k call46 (ih (.mk s l t) hwm (.mk s' l' t') hvm) (allc (gp_encT _) (allc (gp_encT _) (allc (.mp 0) alln))) (gp_encT _) ?_
                    obtain ⟨cs, hcs⟩ : ∃ cs, encT (joinTr (Wy.mk s l t).t (Wy.mk s' l' t').t) = .np cs := np_encT _
                    have hcs' : encT (joinTr t t') = .np cs := hcs
                    simp -implicitDefEqProofs only [awl, ne_eq, srcRows, awo, aggEq, eqF, litEq, andO, qwl, qwo, Go.Ab.qOp, lop, oneK, stepOp, pairO, pureOp, heapOp, entry, slotsOf, ev, evL, evP, evO, lk, up, St.put, St.drop, constAV, cellAV, cellsAV, plain, binV, nilCmp, intBin, strBin, guardBit, boolOf, fnOf, intOfAV, bound, resOf, retV, moved, rowOf, valAt, Kd.agg, AV.cells, splice, places, fillAV, rowsFill, Hp.none, ↓reduceIte, reduceCtorEq, Nat.reduceLT, Nat.reduceEqDiff, Nat.reduceAdd, Nat.reduceLeDiff, Nat.reducePow, Nat.reduceMul, Yzz, Xzz, Yzy, tyW, List.mem_singleton, forall_eq, List.not_mem_nil, false_imp_iff, implies_true, hfit0, hcs]
                    exact St.wk.cp (St.le.wk (by simp [St.le, lk, jnS, encW, grA, grT, grN, List.map_append, ← hcs']))
                  · simp -implicitDefEqProofs (disch := omega) only [awl, ne_eq, srcRows, awo, aggEq, eqF, litEq, andO, qwl, qwo, Go.Ab.qOp, lop, oneK, stepOp, pairO, pureOp, heapOp, entry, slotsOf, ev, evL, evP, evO, lk, up, St.put, St.drop, constAV, cellAV, cellsAV, plain, binV, nilCmp, intBin, strBin, guardBit, boolOf, fnOf, intOfAV, bound, resOf, retV, moved, rowOf, valAt, Kd.agg, AV.cells, splice, places, fillAV, rowsFill, Hp.none, ↓reduceIte, reduceCtorEq, Nat.reduceLT, Nat.reduceEqDiff, Nat.reduceAdd, Nat.reduceLeDiff, Nat.reducePow, Nat.reduceMul, Yzz, Xzz, Yzy, tyW, jnS, i64w]
                    exact ⟨(i + 1, j + 1, [.mk s l (joinTr t t')]), ⟨by simp [← hl], by show i + 1 ≤ _; omega, by show j + 1 ≤ _; omega, by rw [he]; simp [Wy.s, Wy.l, Wy.t]⟩, St.wk.cp (St.wk_slots (by simp [lk]))⟩
            · have j2 : ¬ (j : Int) < (vs.length : Int) := by omega
              have j3 : ((j : Int) == (vs.length : Int)) = true := by rw [beq_iff_eq]; omega
              have c1 : ((-1 : Int) < 0) = True := by decide
              rw [dw, List.drop_eq_nil_of_le hj', joinWs_nil_right] at he
              simp -implicitDefEqProofs only [awl, ne_eq, srcRows, awo, aggEq, eqF, litEq, andO, qwl, qwo, Go.Ab.qOp, lop, oneK, stepOp, pairO, pureOp, heapOp, entry, slotsOf, ev, evL, evP, evO, lk, up, St.put, St.drop, constAV, cellAV, cellsAV, plain, binV, nilCmp, intBin, strBin, guardBit, boolOf, fnOf, intOfAV, bound, resOf, retV, moved, rowOf, valAt, Kd.agg, AV.cells, splice, places, fillAV, rowsFill, Hp.none, ↓reduceIte, reduceCtorEq, Nat.reduceLT, Nat.reduceEqDiff, Nat.reduceAdd, Nat.reduceLeDiff, Nat.reducePow, Nat.reduceMul, Yzz, Xzz, Yzy, tyW, jnS, List.map_nil, grA_nil, grT_nil, grN_nil, List.length_map, decide_true, decide_false, Bool.not_true, Bool.not_false, ncast, Int.toNat_natCast, i1, i3, j2, j3, gw, c1, encW, List.take]
              refine aw_wk (σ' := jnS b2 false b2 ws vs k (i, j, [])) (St.wk_slots1 (by simp [lk]) (by simp [lk, grA]) (fun t => rfl)) ?_
              simp only [jnS, List.map_nil, grA_nil, grT_nil, grN_nil]
              refine aw_drawG (n := 182) (σ' := jnS b2 false b2 ws vs 0 (i, j, [.mk s l t])) 2 13 (.alt 14 (.alt 15 (.alt 16 .leaf .nil) .nil) .nil) rfl rfl (by decide) (by decide) (by decide) mixed (by kernel_rfl) (by decide) ?_ ?_
              · simp -implicitDefEqProofs only [awl, ne_eq, srcRows, awo, aggEq, eqF, litEq, andO, qwl, qwo, Go.Ab.qOp, lop, oneK, stepOp, pairO, pureOp, heapOp, entry, slotsOf, ev, evL, evP, evO, lk, up, St.put, St.drop, constAV, cellAV, cellsAV, plain, binV, nilCmp, intBin, strBin, guardBit, boolOf, fnOf, intOfAV, bound, resOf, retV, moved, rowOf, valAt, Kd.agg, AV.cells, splice, places, fillAV, rowsFill, Hp.none, ↓reduceIte, reduceCtorEq, Nat.reduceLT, Nat.reduceEqDiff, Nat.reduceAdd, Nat.reduceLeDiff, Nat.reducePow, Nat.reduceMul, Yzz, Xzz, Yzy, tyW, jnS, List.map_nil, grA_nil, grT_nil, grN_nil, List.length_map, decide_true, decide_false, Bool.not_true, Bool.not_false, ncast, Int.toNat_natCast, i1, i3, j2, j3, gw, c1, encW, List.take, List.mem_singleton, forall_eq, List.not_mem_nil, false_imp_iff, implies_true, hfit0]
                exact St.wk.cp (St.le.wk (by simp [St.le, lk, jnS, encW, grA, grT, grN, List.map_append]))
              · simp -implicitDefEqProofs (disch := omega) only [awl, ne_eq, srcRows, awo, aggEq, eqF, litEq, andO, qwl, qwo, Go.Ab.qOp, lop, oneK, stepOp, pairO, pureOp, heapOp, entry, slotsOf, ev, evL, evP, evO, lk, up, St.put, St.drop, constAV, cellAV, cellsAV, plain, binV, nilCmp, intBin, strBin, guardBit, boolOf, fnOf, intOfAV, bound, resOf, retV, moved, rowOf, valAt, Kd.agg, AV.cells, splice, places, fillAV, rowsFill, Hp.none, ↓reduceIte, reduceCtorEq, Nat.reduceLT, Nat.reduceEqDiff, Nat.reduceAdd, Nat.reduceLeDiff, Nat.reducePow, Nat.reduceMul, Yzz, Xzz, Yzy, tyW, jnS, i64w]
                exact ⟨(i + 1, j, [.mk s l t]), ⟨by simp [← hl], by show i + 1 ≤ _; omega, by show j ≤ _; omega, by rw [he, List.drop_eq_nil_of_le hj', joinWs_nil_right]; simp⟩, St.wk.cp (St.wk_slots (by simp [lk]))⟩
          · have i2 : ¬ (i : Int) < (ws.length : Int) := by omega
            have i3 : ((i : Int) == (ws.length : Int)) = true := by rw [beq_iff_eq]; omega
            rw [List.drop_eq_nil_of_le hi', joinWs_nil_left] at he
            have hj' : j < vs.length := by
              have := congrArg List.length he
              simp only [List.length_append, List.length_drop] at this hl
              omega
            have j1 : (j : Int) < (vs.length : Int) := by omega
            have j3 : ((j : Int) == (vs.length : Int)) = false := by rw [beq_eq_false_iff_ne]; omega
            have c1 : ((1 : Int) < 0) = False := by decide
            have c2 : ((1 : Int) > 0) = True := by decide
            obtain ⟨v, hv⟩ : ∃ v, vs[j]? = some v := ⟨_, List.getElem?_eq_getElem hj'⟩
            have gv := map_getD encW hv
            have dv : vs.drop j = v :: vs.drop (j + 1) := by rw [List.drop_eq_getElem_cons hj', (List.getElem?_eq_some_iff.1 hv).2]
            rcases v with ⟨s', l', t'⟩
            rw [dv] at he
            simp -implicitDefEqProofs only [awl, ne_eq, srcRows, awo, aggEq, eqF, litEq, andO, qwl, qwo, Go.Ab.qOp, lop, oneK, stepOp, pairO, pureOp, heapOp, entry, slotsOf, ev, evL, evP, evO, lk, up, St.put, St.drop, constAV, cellAV, cellsAV, plain, binV, nilCmp, intBin, strBin, guardBit, boolOf, fnOf, intOfAV, bound, resOf, retV, moved, rowOf, valAt, Kd.agg, AV.cells, splice, places, fillAV, rowsFill, Hp.none, ↓reduceIte, reduceCtorEq, Nat.reduceLT, Nat.reduceEqDiff, Nat.reduceAdd, Nat.reduceLeDiff, Nat.reducePow, Nat.reduceMul, Yzz, Xzz, Yzy, tyW, jnS, List.map_nil, grA_nil, grT_nil, grN_nil, List.length_map, decide_true, decide_false, Bool.not_true, Bool.not_false, ncast, Int.toNat_natCast, i2, i3, j1, j3, gv, c1, c2, encW, List.take]
            refine aw_wk (σ' := jnS b2 false b2 ws vs k (i, j, [])) (St.wk_slots1 (by simp [lk]) (by simp [lk, grA]) (fun t => rfl)) ?_
            simp only [jnS, List.map_nil, grA_nil, grT_nil, grN_nil]
            refine aw_drawG (n := 182) (σ' := jnS b2 false b2 ws vs 0 (i, j, [.mk s' l' t'])) 2 13 (.alt 14 (.alt 15 (.alt 16 .leaf .nil) .nil) .nil) rfl rfl (by decide) (by decide) (by decide) mixed (by kernel_rfl) (by decide) ?_ ?_
            · simp -implicitDefEqProofs only [awl, ne_eq, srcRows, awo, aggEq, eqF, litEq, andO, qwl, qwo, Go.Ab.qOp, lop, oneK, stepOp, pairO, pureOp, heapOp, entry, slotsOf, ev, evL, evP, evO, lk, up, St.put, St.drop, constAV, cellAV, cellsAV, plain, binV, nilCmp, intBin, strBin, guardBit, boolOf, fnOf, intOfAV, bound, resOf, retV, moved, rowOf, valAt, Kd.agg, AV.cells, splice, places, fillAV, rowsFill, Hp.none, ↓reduceIte, reduceCtorEq, Nat.reduceLT, Nat.reduceEqDiff, Nat.reduceAdd, Nat.reduceLeDiff, Nat.reducePow, Nat.reduceMul, Yzz, Xzz, Yzy, tyW, jnS, List.map_nil, grA_nil, grT_nil, grN_nil, List.length_map, decide_true, decide_false, Bool.not_true, Bool.not_false, ncast, Int.toNat_natCast, i2, i3, j1, j3, gv, c1, c2, encW, List.take, List.mem_singleton, forall_eq, List.not_mem_nil, false_imp_iff, implies_true, hfit0]
              exact St.wk.cp (St.le.wk (by simp [St.le, lk, jnS, encW, grA, grT, grN, List.map_append]))
            · simp -implicitDefEqProofs (disch := omega) only [awl, ne_eq, srcRows, awo, aggEq, eqF, litEq, andO, qwl, qwo, Go.Ab.qOp, lop, oneK, stepOp, pairO, pureOp, heapOp, entry, slotsOf, ev, evL, evP, evO, lk, up, St.put, St.drop, constAV, cellAV, cellsAV, plain, binV, nilCmp, intBin, strBin, guardBit, boolOf, fnOf, intOfAV, bound, resOf, retV, moved, rowOf, valAt, Kd.agg, AV.cells, splice, places, fillAV, rowsFill, Hp.none, ↓reduceIte, reduceCtorEq, Nat.reduceLT, Nat.reduceEqDiff, Nat.reduceAdd, Nat.reduceLeDiff, Nat.reducePow, Nat.reduceMul, Yzz, Xzz, Yzy, tyW, jnS, i64w]
              exact ⟨(i, j + 1, [.mk s' l' t']), ⟨by simp [← hl], by show i ≤ _; omega, by show j + 1 ≤ _; omega, by rw [he, List.drop_eq_nil_of_le hi', joinWs_nil_left]; simp⟩, St.wk.cp (St.wk_slots (by simp [lk]))⟩
        | cons x r =>
          have hfit : fits (r.length + 1 + 1) 24 := by
            simp only [List.length_cons] at hl
            exact fits_of' (by omega) (by omega)
          have hlen3 : ∀ q ∈ encW x :: r.map encW, q.length = 3 := len_rows (x :: r)
          rcases Nat.lt_or_ge i ws.length with hi' | hi'
          · have i1 : (i : Int) < (ws.length : Int) := by omega
            have i3 : ((i : Int) == (ws.length : Int)) = false := by rw [beq_eq_false_iff_ne]; omega
            obtain ⟨w, hw⟩ : ∃ w, ws[i]? = some w := ⟨_, List.getElem?_eq_getElem hi'⟩
            have gw := map_getD encW hw
            have hwm : w ∈ ws := List.mem_of_getElem? hw
            have dw : ws.drop i = w :: ws.drop (i + 1) := by rw [List.drop_eq_getElem_cons hi', (List.getElem?_eq_some_iff.1 hw).2]
            rcases w with ⟨s, l, t⟩
            rcases Nat.lt_or_ge j vs.length with hj' | hj'
            · have j1 : (j : Int) < (vs.length : Int) := by omega
              have j3 : ((j : Int) == (vs.length : Int)) = false := by rw [beq_eq_false_iff_ne]; omega
              obtain ⟨v, hv⟩ : ∃ v, vs[j]? = some v := ⟨_, List.getElem?_eq_getElem hj'⟩
              have gv := map_getD encW hv
              have hvm : v ∈ vs := List.mem_of_getElem? hv
              have dv : vs.drop j = v :: vs.drop (j + 1) := by rw [List.drop_eq_getElem_cons hj', (List.getElem?_eq_some_iff.1 hv).2]
              rcases v with ⟨s', l', t'⟩
              rw [dw, dv, joinWs_cons] at he
              have ec : cmpF s l s' l' = cmpW (.mk s l t) (.mk s' l' t') := rfl
              simp -implicitDefEqProofs only [awl, ne_eq, srcRows, awo, aggEq, eqF, litEq, andO, qwl, qwo, Go.Ab.qOp, lop, oneK, stepOp, pairO, pureOp, heapOp, entry, slotsOf, ev, evL, evP, evO, lk, up, St.put, St.drop, constAV, cellAV, cellsAV, plain, binV, nilCmp, intBin, strBin, guardBit, boolOf, fnOf, intOfAV, bound, resOf, retV, moved, rowOf, valAt, Kd.agg, AV.cells, splice, places, fillAV, rowsFill, Hp.none, ↓reduceIte, reduceCtorEq, Nat.reduceLT, Nat.reduceEqDiff, Nat.reduceAdd, Nat.reduceLeDiff, Nat.reducePow, Nat.reduceMul, Yzz, Xzz, Yzy, tyW, jnS, List.map_cons, grA_cons, grT_cons, grN_cons, List.length_map, decide_true, decide_false, Bool.not_true, Bool.not_false, ncast, Int.toNat_natCast, i1, i3, j1, j3, gw, gv]
              refine aw_wk (σ' := jnS b2 false b2 ws vs k (i, j, (x :: r))) (St.wk_slots1 (by simp [lk]) (by simp [lk, grA]) (fun t => rfl)) ?_
              simp only [jnS, List.map_cons, grA_cons, grT_cons, grN_cons]
              refine aw_quietN (n := 182) rfl (by decide) mixed ?_
              simp -implicitDefEqProofs only [awl, ne_eq, srcRows, awo, aggEq, eqF, litEq, andO, qwl, qwo, Go.Ab.qOp, lop, oneK, stepOp, pairO, pureOp, heapOp, entry, slotsOf, ev, evL, evP, evO, lk, up, St.put, St.drop, constAV, cellAV, cellsAV, plain, binV, nilCmp, intBin, strBin, guardBit, boolOf, fnOf, intOfAV, bound, resOf, retV, moved, rowOf, valAt, Kd.agg, AV.cells, splice, places, fillAV, rowsFill, Hp.none, ↓reduceIte, reduceCtorEq, Nat.reduceLT, Nat.reduceEqDiff, Nat.reduceAdd, Nat.reduceLeDiff, Nat.reducePow, Nat.reduceMul, Yzz, Xzz, Yzy, tyW, jnS, List.map_cons, grA_cons, grT_cons, grN_cons, List.length_map, decide_true, decide_false, Bool.not_true, Bool.not_false, ncast, Int.toNat_natCast, i1, i3, j1, j3, gw, gv, encW, List.take]
              refine CallQ_pure call39 (spec39 s l s' l') (by simp [Pure.lit, Pure.agg]) (.lit _) ?_
              simp -implicitDefEqProofs only [awl, ne_eq, srcRows, awo, aggEq, eqF, litEq, andO, qwl, qwo, Go.Ab.qOp, lop, oneK, stepOp, pairO, pureOp, heapOp, entry, slotsOf, ev, evL, evP, evO, lk, up, St.put, St.drop, constAV, cellAV, cellsAV, plain, binV, nilCmp, intBin, strBin, guardBit, boolOf, fnOf, intOfAV, bound, resOf, retV, moved, rowOf, valAt, Kd.agg, AV.cells, splice, places, fillAV, rowsFill, Hp.none, ↓reduceIte, reduceCtorEq, Nat.reduceLT, Nat.reduceEqDiff, Nat.reduceAdd, Nat.reduceLeDiff, Nat.reducePow, Nat.reduceMul, Yzz, Xzz, Yzy, tyW]
              refine .intro (fun hc => ?_) (fun hc => ?_)
              · have hc : cmpW (.mk s l t) (.mk s' l' t') < 0 := by rw [← ec]; exact of_decide_eq_true hc
                rw [if_pos hc] at he
                simp -implicitDefEqProofs only [awl, ne_eq, srcRows, awo, aggEq, eqF, litEq, andO, qwl, qwo, Go.Ab.qOp, lop, oneK, stepOp, pairO, pureOp, heapOp, entry, slotsOf, ev, evL, evP, evO, lk, up, St.put, St.drop, constAV, cellAV, cellsAV, plain, binV, nilCmp, intBin, strBin, guardBit, boolOf, fnOf, intOfAV, bound, resOf, retV, moved, rowOf, valAt, Kd.agg, AV.cells, splice, places, fillAV, rowsFill, Hp.none, ↓reduceIte, reduceCtorEq, Nat.reduceLT, Nat.reduceEqDiff, Nat.reduceAdd, Nat.reduceLeDiff, Nat.reducePow, Nat.reduceMul, Yzz, Xzz, Yzy, tyW]
                refine aw_wk (σ' := jnS b2 false b2 ws vs k (i, j, (x :: r))) (St.wk_slots1 (by simp [lk]) (by simp [lk, grA]) (fun t => rfl)) ?_
                simp only [jnS, List.map_cons, grA_cons, grT_cons, grN_cons]
                refine aw_drawG (n := 182) (σ' := jnS b2 false b2 ws vs 0 (i, j, (x :: r ++ [.mk s l t]))) 2 13 (.alt 14 (.alt 15 (.alt 16 .leaf .nil) .nil) .nil) rfl rfl (by decide) (by decide) (by decide) mixed (by kernel_rfl) (by decide) ?_ ?_
                · simp -implicitDefEqProofs only [awl, ne_eq, srcRows, awo, aggEq, eqF, litEq, andO, qwl, qwo, Go.Ab.qOp, lop, oneK, stepOp, pairO, pureOp, heapOp, entry, slotsOf, ev, evL, evP, evO, lk, up, St.put, St.drop, constAV, cellAV, cellsAV, plain, binV, nilCmp, intBin, strBin, guardBit, boolOf, fnOf, intOfAV, bound, resOf, retV, moved, rowOf, valAt, Kd.agg, AV.cells, splice, places, fillAV, rowsFill, Hp.none, ↓reduceIte, reduceCtorEq, Nat.reduceLT, Nat.reduceEqDiff, Nat.reduceAdd, Nat.reduceLeDiff, Nat.reducePow, Nat.reduceMul, Yzz, Xzz, Yzy, tyW, jnS, List.map_cons, grA_cons, grT_cons, grN_cons, List.length_map, decide_true, decide_false, Bool.not_true, Bool.not_false, ncast, Int.toNat_natCast, i1, i3, j1, j3, gw, gv, encW, List.take, List.mem_singleton, forall_eq, List.not_mem_nil, false_imp_iff, implies_true, hfit, hlen3, List.length_map, List.cons_append]
                  exact St.wk.cp (St.le.wk (by simp [St.le, lk, jnS, encW, grA, grT, grN, List.map_append]))
                · simp -implicitDefEqProofs (disch := omega) only [awl, ne_eq, srcRows, awo, aggEq, eqF, litEq, andO, qwl, qwo, Go.Ab.qOp, lop, oneK, stepOp, pairO, pureOp, heapOp, entry, slotsOf, ev, evL, evP, evO, lk, up, St.put, St.drop, constAV, cellAV, cellsAV, plain, binV, nilCmp, intBin, strBin, guardBit, boolOf, fnOf, intOfAV, bound, resOf, retV, moved, rowOf, valAt, Kd.agg, AV.cells, splice, places, fillAV, rowsFill, Hp.none, ↓reduceIte, reduceCtorEq, Nat.reduceLT, Nat.reduceEqDiff, Nat.reduceAdd, Nat.reduceLeDiff, Nat.reducePow, Nat.reduceMul, Yzz, Xzz, Yzy, tyW, jnS, i64w]
                  exact ⟨(i + 1, j, (x :: r ++ [.mk s l t])), ⟨by simp [← hl], by show i + 1 ≤ _; omega, by show j ≤ _; omega, by rw [he, dv]; simp⟩, St.wk.cp (St.wk_slots (by simp [lk]))⟩
              · have hn : ¬ cmpW (.mk s l t) (.mk s' l' t') < 0 := by rw [← ec]; exact of_decide_eq_false hc
                rw [if_neg hn] at he
                simp -implicitDefEqProofs only [awl, ne_eq, srcRows, awo, aggEq, eqF, litEq, andO, qwl, qwo, Go.Ab.qOp, lop, oneK, stepOp, pairO, pureOp, heapOp, entry, slotsOf, ev, evL, evP, evO, lk, up, St.put, St.drop, constAV, cellAV, cellsAV, plain, binV, nilCmp, intBin, strBin, guardBit, boolOf, fnOf, intOfAV, bound, resOf, retV, moved, rowOf, valAt, Kd.agg, AV.cells, splice, places, fillAV, rowsFill, Hp.none, ↓reduceIte, reduceCtorEq, Nat.reduceLT, Nat.reduceEqDiff, Nat.reduceAdd, Nat.reduceLeDiff, Nat.reducePow, Nat.reduceMul, Yzz, Xzz, Yzy, tyW]
                refine .intro (fun hc => ?_) (fun hc => ?_)
                · have hc : cmpW (.mk s l t) (.mk s' l' t') > 0 := by rw [← ec]; exact of_decide_eq_true hc
                  rw [if_pos hc] at he
                  simp -implicitDefEqProofs only [awl, ne_eq, srcRows, awo, aggEq, eqF, litEq, andO, qwl, qwo, Go.Ab.qOp, lop, oneK, stepOp, pairO, pureOp, heapOp, entry, slotsOf, ev, evL, evP, evO, lk, up, St.put, St.drop, constAV, cellAV, cellsAV, plain, binV, nilCmp, intBin, strBin, guardBit, boolOf, fnOf, intOfAV, bound, resOf, retV, moved, rowOf, valAt, Kd.agg, AV.cells, splice, places, fillAV, rowsFill, Hp.none, ↓reduceIte, reduceCtorEq, Nat.reduceLT, Nat.reduceEqDiff, Nat.reduceAdd, Nat.reduceLeDiff, Nat.reducePow, Nat.reduceMul, Yzz, Xzz, Yzy, tyW]
                  refine aw_wk (σ' := jnS b2 false b2 ws vs k (i, j, (x :: r))) (St.wk_slots1 (by simp [lk]) (by simp [lk, grA]) (fun t => rfl)) ?_
                  simp only [jnS, List.map_cons, grA_cons, grT_cons, grN_cons]
                  refine aw_drawG (n := 182) (σ' := jnS b2 false b2 ws vs 0 (i, j, (x :: r ++ [.mk s' l' t']))) 2 13 (.alt 14 (.alt 15 (.alt 16 .leaf .nil) .nil) .nil) rfl rfl (by decide) (by decide) (by decide) mixed (by kernel_rfl) (by decide) ?_ ?_
                  · simp -implicitDefEqProofs only [awl, ne_eq, srcRows, awo, aggEq, eqF, litEq, andO, qwl, qwo, Go.Ab.qOp, lop, oneK, stepOp, pairO, pureOp, heapOp, entry, slotsOf, ev, evL, evP, evO, lk, up, St.put, St.drop, constAV, cellAV, cellsAV, plain, binV, nilCmp, intBin, strBin, guardBit, boolOf, fnOf, intOfAV, bound, resOf, retV, moved, rowOf, valAt, Kd.agg, AV.cells, splice, places, fillAV, rowsFill, Hp.none, ↓reduceIte, reduceCtorEq, Nat.reduceLT, Nat.reduceEqDiff, Nat.reduceAdd, Nat.reduceLeDiff, Nat.reducePow, Nat.reduceMul, Yzz, Xzz, Yzy, tyW, jnS, List.map_cons, grA_cons, grT_cons, grN_cons, List.length_map, decide_true, decide_false, Bool.not_true, Bool.not_false, ncast, Int.toNat_natCast, i1, i3, j1, j3, gw, gv, encW, List.take, List.mem_singleton, forall_eq, List.not_mem_nil, false_imp_iff, implies_true, hfit, hlen3, List.length_map, List.cons_append]
                    exact St.wk.cp (St.le.wk (by simp [St.le, lk, jnS, encW, grA, grT, grN, List.map_append]))
                  · simp -implicitDefEqProofs (disch := omega) only [awl, ne_eq, srcRows, awo, aggEq, eqF, litEq, andO, qwl, qwo, Go.Ab.qOp, lop, oneK, stepOp, pairO, pureOp, heapOp, entry, slotsOf, ev, evL, evP, evO, lk, up, St.put, St.drop, constAV, cellAV, cellsAV, plain, binV, nilCmp, intBin, strBin, guardBit, boolOf, fnOf, intOfAV, bound, resOf, retV, moved, rowOf, valAt, Kd.agg, AV.cells, splice, places, fillAV, rowsFill, Hp.none, ↓reduceIte, reduceCtorEq, Nat.reduceLT, Nat.reduceEqDiff, Nat.reduceAdd, Nat.reduceLeDiff, Nat.reducePow, Nat.reduceMul, Yzz, Xzz, Yzy, tyW, jnS, i64w]
                    exact ⟨(i, j + 1, (x :: r ++ [.mk s' l' t'])), ⟨by simp [← hl], by show i ≤ _; omega, by show j + 1 ≤ _; omega, by rw [he, dw]; simp⟩, St.wk.cp (St.wk_slots (by simp [lk]))⟩
                · have hn : ¬ cmpW (.mk s l t) (.mk s' l' t') > 0 := by rw [← ec]; exact of_decide_eq_false hc
                  rw [if_neg hn] at he
                  simp -implicitDefEqProofs only [awl, ne_eq, srcRows, awo, aggEq, eqF, litEq, andO, qwl, qwo, Go.Ab.qOp, lop, oneK, stepOp, pairO, pureOp, heapOp, entry, slotsOf, ev, evL, evP, evO, lk, up, St.put, St.drop, constAV, cellAV, cellsAV, plain, binV, nilCmp, intBin, strBin, guardBit, boolOf, fnOf, intOfAV, bound, resOf, retV, moved, rowOf, valAt, Kd.agg, AV.cells, splice, places, fillAV, rowsFill, Hp.none, ↓reduceIte, reduceCtorEq, Nat.reduceLT, Nat.reduceEqDiff, Nat.reduceAdd, Nat.reduceLeDiff, Nat.reducePow, Nat.reduceMul, Yzz, Xzz, Yzy, tyW]
                  refine aw_wk (σ' := jnS b2 false b2 ws vs k (i, j, (x :: r))) (St.wk_slots1 (by simp [lk]) (by simp [lk, grA]) (fun t => rfl)) ?_
                  simp only [jnS, List.map_cons, grA_cons, grT_cons, grN_cons]
                  refine aw_drawG (n := 182) (σ' := jnS b2 false b2 ws vs 0 (i, j, (x :: r ++ [.mk s l (joinTr t t')]))) 2 33 (.alt 34 (.alt 35 (.alt 36 .leaf .nil) .nil) .nil) rfl rfl (by decide) (by decide) (by decide) mixed (by kernel_rfl) (by decide) ?_ ?_
                  · simp -implicitDefEqProofs only [awl, ne_eq, srcRows, awo, aggEq, eqF, litEq, andO, qwl, qwo, Go.Ab.qOp, lop, oneK, stepOp, pairO, pureOp, heapOp, entry, slotsOf, ev, evL, evP, evO, lk, up, St.put, St.drop, constAV, cellAV, cellsAV, plain, binV, nilCmp, intBin, strBin, guardBit, boolOf, fnOf, intOfAV, bound, resOf, retV, moved, rowOf, valAt, Kd.agg, AV.cells, splice, places, fillAV, rowsFill, Hp.none, ↓reduceIte, reduceCtorEq, Nat.reduceLT, Nat.reduceEqDiff, Nat.reduceAdd, Nat.reduceLeDiff, Nat.reducePow, Nat.reduceMul, Yzz, Xzz, Yzy, tyW, jnS, List.map_cons, grA_cons, grT_cons, grN_cons, List.length_map, decide_true, decide_false, Bool.not_true, Bool.not_false, ncast, Int.toNat_natCast, i1, i3, j1, j3, gw, gv, encW, List.take, List.mem_singleton, forall_eq, List.not_mem_nil, false_imp_iff, implies_true, hfit, hlen3, List.length_map, List.cons_append]
                    refine CallQ_k call46 (ih (.mk s l t) hwm (.mk s' l' t') hvm) (allc (gp_encT _) (allc (gp_encT _) (allc (.mp 0) alln))) (gp_encT _) ?_
                    obtain ⟨cs, hcs⟩ : ∃ cs, encT (joinTr (Wy.mk s l t).t (Wy.mk s' l' t').t) = .np cs := np_encT _
                    have hcs' : encT (joinTr t t') = .np cs := hcs
                    simp -implicitDefEqProofs only [awl, ne_eq, srcRows, awo, aggEq, eqF, litEq, andO, qwl, qwo, Go.Ab.qOp, lop, oneK, stepOp, pairO, pureOp, heapOp, entry, slotsOf, ev, evL, evP, evO, lk, up, St.put, St.drop, constAV, cellAV, cellsAV, plain, binV, nilCmp, intBin, strBin, guardBit, boolOf, fnOf, intOfAV, bound, resOf, retV, moved, rowOf, valAt, Kd.agg, AV.cells, splice, places, fillAV, rowsFill, Hp.none, ↓reduceIte, reduceCtorEq, Nat.reduceLT, Nat.reduceEqDiff, Nat.reduceAdd, Nat.reduceLeDiff, Nat.reducePow, Nat.reduceMul, Yzz, Xzz, Yzy, tyW, List.mem_singleton, forall_eq, List.not_mem_nil, false_imp_iff, implies_true, hfit, hlen3, List.length_map, List.cons_append, hcs]
                    exact St.wk.cp (St.le.wk (by simp [St.le, lk, jnS, encW, grA, grT, grN, List.map_append, ← hcs']))
                  · simp -implicitDefEqProofs (disch := omega) only [awl, ne_eq, srcRows, awo, aggEq, eqF, litEq, andO, qwl, qwo, Go.Ab.qOp, lop, oneK, stepOp, pairO, pureOp, heapOp, entry, slotsOf, ev, evL, evP, evO, lk, up, St.put, St.drop, constAV, cellAV, cellsAV, plain, binV, nilCmp, intBin, strBin, guardBit, boolOf, fnOf, intOfAV, bound, resOf, retV, moved, rowOf, valAt, Kd.agg, AV.cells, splice, places, fillAV, rowsFill, Hp.none, ↓reduceIte, reduceCtorEq, Nat.reduceLT, Nat.reduceEqDiff, Nat.reduceAdd, Nat.reduceLeDiff, Nat.reducePow, Nat.reduceMul, Yzz, Xzz, Yzy, tyW, jnS, i64w]
                    exact ⟨(i + 1, j + 1, (x :: r ++ [.mk s l (joinTr t t')])), ⟨by simp [← hl], by show i + 1 ≤ _; omega, by show j + 1 ≤ _; omega, by rw [he]; simp [Wy.s, Wy.l, Wy.t]⟩, St.wk.cp (St.wk_slots (by simp [lk]))⟩
            · have j2 : ¬ (j : Int) < (vs.length : Int) := by omega
              have j3 : ((j : Int) == (vs.length : Int)) = true := by rw [beq_iff_eq]; omega
              have c1 : ((-1 : Int) < 0) = True := by decide
              rw [dw, List.drop_eq_nil_of_le hj', joinWs_nil_right] at he
              simp -implicitDefEqProofs only [awl, ne_eq, srcRows, awo, aggEq, eqF, litEq, andO, qwl, qwo, Go.Ab.qOp, lop, oneK, stepOp, pairO, pureOp, heapOp, entry, slotsOf, ev, evL, evP, evO, lk, up, St.put, St.drop, constAV, cellAV, cellsAV, plain, binV, nilCmp, intBin, strBin, guardBit, boolOf, fnOf, intOfAV, bound, resOf, retV, moved, rowOf, valAt, Kd.agg, AV.cells, splice, places, fillAV, rowsFill, Hp.none, ↓reduceIte, reduceCtorEq, Nat.reduceLT, Nat.reduceEqDiff, Nat.reduceAdd, Nat.reduceLeDiff, Nat.reducePow, Nat.reduceMul, Yzz, Xzz, Yzy, tyW, jnS, List.map_cons, grA_cons, grT_cons, grN_cons, List.length_map, decide_true, decide_false, Bool.not_true, Bool.not_false, ncast, Int.toNat_natCast, i1, i3, j2, j3, gw, c1, encW, List.take]
              refine aw_wk (σ' := jnS b2 false b2 ws vs k (i, j, (x :: r))) (St.wk_slots1 (by simp [lk]) (by simp [lk, grA]) (fun t => rfl)) ?_
              simp only [jnS, List.map_cons, grA_cons, grT_cons, grN_cons]
              refine aw_drawG (n := 182) (σ' := jnS b2 false b2 ws vs 0 (i, j, (x :: r ++ [.mk s l t]))) 2 13 (.alt 14 (.alt 15 (.alt 16 .leaf .nil) .nil) .nil) rfl rfl (by decide) (by decide) (by decide) mixed (by kernel_rfl) (by decide) ?_ ?_
              · simp -implicitDefEqProofs only [awl, ne_eq, srcRows, awo, aggEq, eqF, litEq, andO, qwl, qwo, Go.Ab.qOp, lop, oneK, stepOp, pairO, pureOp, heapOp, entry, slotsOf, ev, evL, evP, evO, lk, up, St.put, St.drop, constAV, cellAV, cellsAV, plain, binV, nilCmp, intBin, strBin, guardBit, boolOf, fnOf, intOfAV, bound, resOf, retV, moved, rowOf, valAt, Kd.agg, AV.cells, splice, places, fillAV, rowsFill, Hp.none, ↓reduceIte, reduceCtorEq, Nat.reduceLT, Nat.reduceEqDiff, Nat.reduceAdd, Nat.reduceLeDiff, Nat.reducePow, Nat.reduceMul, Yzz, Xzz, Yzy, tyW, jnS, List.map_cons, grA_cons, grT_cons, grN_cons, List.length_map, decide_true, decide_false, Bool.not_true, Bool.not_false, ncast, Int.toNat_natCast, i1, i3, j2, j3, gw, c1, encW, List.take, List.mem_singleton, forall_eq, List.not_mem_nil, false_imp_iff, implies_true, hfit, hlen3, List.length_map, List.cons_append]
                exact St.wk.cp (St.le.wk (by simp [St.le, lk, jnS, encW, grA, grT, grN, List.map_append]))
              · simp -implicitDefEqProofs (disch := omega) only [awl, ne_eq, srcRows, awo, aggEq, eqF, litEq, andO, qwl, qwo, Go.Ab.qOp, lop, oneK, stepOp, pairO, pureOp, heapOp, entry, slotsOf, ev, evL, evP, evO, lk, up, St.put, St.drop, constAV, cellAV, cellsAV, plain, binV, nilCmp, intBin, strBin, guardBit, boolOf, fnOf, intOfAV, bound, resOf, retV, moved, rowOf, valAt, Kd.agg, AV.cells, splice, places, fillAV, rowsFill, Hp.none, ↓reduceIte, reduceCtorEq, Nat.reduceLT, Nat.reduceEqDiff, Nat.reduceAdd, Nat.reduceLeDiff, Nat.reducePow, Nat.reduceMul, Yzz, Xzz, Yzy, tyW, jnS, i64w]
                exact ⟨(i + 1, j, (x :: r ++ [.mk s l t])), ⟨by simp [← hl], by show i + 1 ≤ _; omega, by show j ≤ _; omega, by rw [he, List.drop_eq_nil_of_le hj', joinWs_nil_right]; simp⟩, St.wk.cp (St.wk_slots (by simp [lk]))⟩
          · have i2 : ¬ (i : Int) < (ws.length : Int) := by omega
            have i3 : ((i : Int) == (ws.length : Int)) = true := by rw [beq_iff_eq]; omega
            rw [List.drop_eq_nil_of_le hi', joinWs_nil_left] at he
            have hj' : j < vs.length := by
              have := congrArg List.length he
              simp only [List.length_append, List.length_drop] at this hl
              omega
            have j1 : (j : Int) < (vs.length : Int) := by omega
            have j3 : ((j : Int) == (vs.length : Int)) = false := by rw [beq_eq_false_iff_ne]; omega
            have c1 : ((1 : Int) < 0) = False := by decide
            have c2 : ((1 : Int) > 0) = True := by decide
            obtain ⟨v, hv⟩ : ∃ v, vs[j]? = some v := ⟨_, List.getElem?_eq_getElem hj'⟩
            have gv := map_getD encW hv
            have dv : vs.drop j = v :: vs.drop (j + 1) := by rw [List.drop_eq_getElem_cons hj', (List.getElem?_eq_some_iff.1 hv).2]
            rcases v with ⟨s', l', t'⟩
            rw [dv] at he
            simp -implicitDefEqProofs only [awl, ne_eq, srcRows, awo, aggEq, eqF, litEq, andO, qwl, qwo, Go.Ab.qOp, lop, oneK, stepOp, pairO, pureOp, heapOp, entry, slotsOf, ev, evL, evP, evO, lk, up, St.put, St.drop, constAV, cellAV, cellsAV, plain, binV, nilCmp, intBin, strBin, guardBit, boolOf, fnOf, intOfAV, bound, resOf, retV, moved, rowOf, valAt, Kd.agg, AV.cells, splice, places, fillAV, rowsFill, Hp.none, ↓reduceIte, reduceCtorEq, Nat.reduceLT, Nat.reduceEqDiff, Nat.reduceAdd, Nat.reduceLeDiff, Nat.reducePow, Nat.reduceMul, Yzz, Xzz, Yzy, tyW, jnS, List.map_cons, grA_cons, grT_cons, grN_cons, List.length_map, decide_true, decide_false, Bool.not_true, Bool.not_false, ncast, Int.toNat_natCast, i2, i3, j1, j3, gv, c1, c2, encW, List.take]
            refine aw_wk (σ' := jnS b2 false b2 ws vs k (i, j, (x :: r))) (St.wk_slots1 (by simp [lk]) (by simp [lk, grA]) (fun t => rfl)) ?_
            simp only [jnS, List.map_cons, grA_cons, grT_cons, grN_cons]
            refine aw_drawG (n := 182) (σ' := jnS b2 false b2 ws vs 0 (i, j, (x :: r ++ [.mk s' l' t']))) 2 13 (.alt 14 (.alt 15 (.alt 16 .leaf .nil) .nil) .nil) rfl rfl (by decide) (by decide) (by decide) mixed (by kernel_rfl) (by decide) ?_ ?_
            · simp -implicitDefEqProofs only [awl, ne_eq, srcRows, awo, aggEq, eqF, litEq, andO, qwl, qwo, Go.Ab.qOp, lop, oneK, stepOp, pairO, pureOp, heapOp, entry, slotsOf, ev, evL, evP, evO, lk, up, St.put, St.drop, constAV, cellAV, cellsAV, plain, binV, nilCmp, intBin, strBin, guardBit, boolOf, fnOf, intOfAV, bound, resOf, retV, moved, rowOf, valAt, Kd.agg, AV.cells, splice, places, fillAV, rowsFill, Hp.none, ↓reduceIte, reduceCtorEq, Nat.reduceLT, Nat.reduceEqDiff, Nat.reduceAdd, Nat.reduceLeDiff, Nat.reducePow, Nat.reduceMul, Yzz, Xzz, Yzy, tyW, jnS, List.map_cons, grA_cons, grT_cons, grN_cons, List.length_map, decide_true, decide_false, Bool.not_true, Bool.not_false, ncast, Int.toNat_natCast, i2, i3, j1, j3, gv, c1, c2, encW, List.take, List.mem_singleton, forall_eq, List.not_mem_nil, false_imp_iff, implies_true, hfit, hlen3, List.length_map, List.cons_append]
              exact St.wk.cp (St.le.wk (by simp [St.le, lk, jnS, encW, grA, grT, grN, List.map_append]))
            · simp -implicitDefEqProofs (disch := omega) only [awl, ne_eq, srcRows, awo, aggEq, eqF, litEq, andO, qwl, qwo, Go.Ab.qOp, lop, oneK, stepOp, pairO, pureOp, heapOp, entry, slotsOf, ev, evL, evP, evO, lk, up, St.put, St.drop, constAV, cellAV, cellsAV, plain, binV, nilCmp, intBin, strBin, guardBit, boolOf, fnOf, intOfAV, bound, resOf, retV, moved, rowOf, valAt, Kd.agg, AV.cells, splice, places, fillAV, rowsFill, Hp.none, ↓reduceIte, reduceCtorEq, Nat.reduceLT, Nat.reduceEqDiff, Nat.reduceAdd, Nat.reduceLeDiff, Nat.reducePow, Nat.reduceMul, Yzz, Xzz, Yzy, tyW, jnS, i64w]
              exact ⟨(i, j + 1, (x :: r ++ [.mk s' l' t'])), ⟨by simp [← hl], by show i ≤ _; omega, by show j + 1 ≤ _; omega, by rw [he, List.drop_eq_nil_of_le hi', joinWs_nil_left]; simp⟩, St.wk.cp (St.wk_slots (by simp [lk]))⟩
      · rintro ⟨i, j, r⟩ ⟨hl, hi, hj, he⟩
        simp only at hl hi hj he
        have h0 : joinWs (ws.drop i) (vs.drop j) = [] := by
          have := congrArg List.length he
          simp only [List.length_append] at this
          exact List.length_eq_zero_iff.1 (by omega)
        have hij : i = ws.length ∧ j = vs.length := by
          have hd := joinWs_len_ge (ws.drop i) (vs.drop j)
          rw [h0] at hd
          simp only [List.length_drop, List.length_nil] at hd
          omega
        have i2 : ¬ (i : Int) < (ws.length : Int) := by omega
        have j2 : ¬ (j : Int) < (vs.length : Int) := by omega
        rw [h0, List.append_nil] at he
        simp -implicitDefEqProofs only [awl, ne_eq, srcRows, awo, aggEq, eqF, litEq, andO, qwl, qwo, Go.Ab.qOp, lop, oneK, stepOp, pairO, pureOp, heapOp, entry, slotsOf, ev, evL, evP, evO, lk, up, St.put, St.drop, constAV, cellAV, cellsAV, plain, binV, nilCmp, intBin, strBin, guardBit, boolOf, fnOf, intOfAV, bound, resOf, retV, moved, rowOf, valAt, Kd.agg, AV.cells, splice, places, fillAV, rowsFill, Hp.none, ↓reduceIte, reduceCtorEq, Nat.reduceLT, Nat.reduceEqDiff, Nat.reduceAdd, Nat.reduceLeDiff, Nat.reducePow, Nat.reduceMul, Yzz, Xzz, Yzy, tyW, jnS, List.length_map, i2, j2, decide_true, decide_false, Bool.not_true, Bool.not_false]
        refine stepK_wk (σ' := ⟨[(8, .np [.lit (.bool b2), .vec (r.map encW) false]), (180, .np [.lit (.bool b2), .vec (r.map encW) false]), (176, .mp 0), (179, .agg [.np [.lit (.bool false), .vec (ws.map encW) false], .np [.lit (.bool b2), .vec (vs.map encW) false]])], ⟨[], [], grN 1 (r.map encW)⟩, 182⟩) (node_frz (b := b2) (t := 1) (s := 3) (rows := r.map encW) [(176, .mp 0), (179, .agg [.np [.lit (.bool false), .vec (ws.map encW) false], .np [.lit (.bool b2), .vec (vs.map encW) false]])] [8, 180] rfl (fun hr => lk_grT' hr) (by simp [lk]) (by simp [lk])) ?_
        have gp := gp_encT (joinTr (.mk false ws) (.mk b2 vs))
        have hev : encT (joinTr (.mk false ws) (.mk b2 vs)) = .np [.lit (.bool b2), .vec (r.map encW) false] := by rw [joinTr_mk, he, encT_eq, encWs_map]; rfl
        refine stepK_mapUpdate (tag := 0) (S := isPP) (ka := .agg [encT (.mk false ws), encT (.mk b2 vs)]) (va := encT (joinTr (.mk false ws) (.mk b2 vs))) rfl (.pair pairNode) (fun _ _ => cinv0) rfl (by simp only [encT_eq, encWs_map]; rfl) (by rw [hev]; rfl) (isPP_T _ _) ⟨_, _, rfl, rfl⟩ (.agg (allc (gp_encT _) (allc (gp_encT _) alln))) gp ?_
        rw [hev] at gp
        simp -implicitDefEqProofs only [awl, ne_eq, srcRows, awo, aggEq, eqF, litEq, andO, qwl, qwo, Go.Ab.qOp, lop, oneK, stepOp, pairO, pureOp, heapOp, entry, slotsOf, ev, evL, evP, evO, lk, up, St.put, St.drop, constAV, cellAV, cellsAV, plain, binV, nilCmp, intBin, strBin, guardBit, boolOf, fnOf, intOfAV, bound, resOf, retV, moved, rowOf, valAt, Kd.agg, AV.cells, splice, places, fillAV, rowsFill, Hp.none, ↓reduceIte, reduceCtorEq, Nat.reduceLT, Nat.reduceEqDiff, Nat.reduceAdd, Nat.reduceLeDiff, Nat.reducePow, Nat.reduceMul, Yzz, Xzz, Yzy, tyW]
        rw [joinTr_mk, encT_eq, he, encWs_map]
        exact kexpo gp
    · rintro kb va ⟨a, b, rfl, rfl⟩ hs
      obtain ⟨e1, e2⟩ := same_pair hs
      cases same_encT e1
      cases same_encT e2
      have gp := gp_encT (joinTr (.mk false ws) (.mk b2 vs))
      rw [joinTr_mk, encT_eq] at gp ⊢
      simp -implicitDefEqProofs only [awl, ne_eq, srcRows, awo, aggEq, eqF, litEq, andO, qwl, qwo, Go.Ab.qOp, lop, oneK, stepOp, pairO, pureOp, heapOp, entry, slotsOf, ev, evL, evP, evO, lk, up, St.put, St.drop, constAV, cellAV, cellsAV, plain, binV, nilCmp, intBin, strBin, guardBit, boolOf, fnOf, intOfAV, bound, resOf, retV, moved, rowOf, valAt, Kd.agg, AV.cells, splice, places, fillAV, rowsFill, Hp.none, ↓reduceIte, reduceCtorEq, Nat.reduceLT, Nat.reduceEqDiff, Nat.reduceAdd, Nat.reduceLeDiff, Nat.reducePow, Nat.reduceMul, Yzz, Xzz, Yzy, tyW]
      exact kexpo gp
  · have : Tr.mk false ws = Tr.mk b2 vs := same_encT (by rw [encT_eq, encT_eq, encWs_map, encWs_map]; exact hq rfl)
    cases this
    have gp := gp_encT (.mk false ws)
    rw [join_idem ha]
    simp -implicitDefEqProofs only [awl, ne_eq, srcRows, awo, aggEq, eqF, litEq, andO, qwl, qwo, Go.Ab.qOp, lop, oneK, stepOp, pairO, pureOp, heapOp, entry, slotsOf, ev, evL, evP, evO, lk, up, St.put, St.drop, constAV, cellAV, cellsAV, plain, binV, nilCmp, intBin, strBin, guardBit, boolOf, fnOf, intOfAV, bound, resOf, retV, moved, rowOf, valAt, Kd.agg, AV.cells, splice, places, fillAV, rowsFill, Hp.none, ↓reduceIte, reduceCtorEq, Nat.reduceLT, Nat.reduceEqDiff, Nat.reduceAdd, Nat.reduceLeDiff, Nat.reducePow, Nat.reduceMul, Yzz, Xzz, Yzy, tyW, encT_eq, encWs_map] at gp ⊢
    exact kexpo gp
theorem join_true (n m : Nat) (hnm : n + m ≤ 2000000000) (b2 : Bool) (ws vs : List Wy) (ha : Wf (.mk true ws)) (hb : Wf (.mk b2 vs)) (lw : ws.length ≤ n) (lv : vs.length ≤ m)
    (ih : ∀ w ∈ ws, ∀ v ∈ vs, KCall Try.prog 46 [encT w.t, encT v.t, .mp 0] (encT (joinTr w.t v.t))) :
    KCall Try.prog 46 [encT (.mk true ws), encT (.mk b2 vs), .mp 0] (encT (joinTr (.mk true ws) (.mk b2 vs))) := by
  refine KCall_of (SCall_intro Try.func46 rfl Try.ntmps46 (rs := [.tmp 6]) rfl (by simp) ?_)
  simp -implicitDefEqProofs only [awl, ne_eq, srcRows, awo, aggEq, eqF, litEq, andO, qwl, qwo, Go.Ab.qOp, lop, oneK, stepOp, pairO, pureOp, heapOp, entry, slotsOf, ev, evL, evP, evO, lk, up, St.put, St.drop, constAV, cellAV, cellsAV, plain, binV, nilCmp, intBin, strBin, guardBit, boolOf, fnOf, intOfAV, bound, resOf, retV, moved, rowOf, valAt, Kd.agg, AV.cells, splice, places, fillAV, rowsFill, Hp.none, ↓reduceIte, reduceCtorEq, Nat.reduceLT, Nat.reduceEqDiff, Nat.reduceAdd, Nat.reduceLeDiff, Nat.reducePow, Nat.reduceMul, Yzz, Xzz, Yzy, tyW, encT_eq, encWs_map]
  refine stepK_eql_np ptrNode (.inr ⟨_, rfl⟩) (.inr ⟨_, rfl⟩) rfl rfl fun q hq => ?_
  cases q
  · simp -implicitDefEqProofs only [awl, ne_eq, srcRows, awo, aggEq, eqF, litEq, andO, qwl, qwo, Go.Ab.qOp, lop, oneK, stepOp, pairO, pureOp, heapOp, entry, slotsOf, ev, evL, evP, evO, lk, up, St.put, St.drop, constAV, cellAV, cellsAV, plain, binV, nilCmp, intBin, strBin, guardBit, boolOf, fnOf, intOfAV, bound, resOf, retV, moved, rowOf, valAt, Kd.agg, AV.cells, splice, places, fillAV, rowsFill, Hp.none, ↓reduceIte, reduceCtorEq, Nat.reduceLT, Nat.reduceEqDiff, Nat.reduceAdd, Nat.reduceLeDiff, Nat.reducePow, Nat.reduceMul, Yzz, Xzz, Yzy, tyW]
    refine stepK_lookup (tag := 0) (ka := .agg [encT (.mk true ws), encT (.mk b2 vs)]) (za := .lit (.pointer none)) (zv := .pointer none) (S := isPP) rfl (.pair pairNode) (fun _ _ => cinv0) rfl (fun g => .lit rfl) rfl (by simp only [encT_eq, encWs_map]; rfl) (isPP_T _ _) ?_ ?_
    · simp -implicitDefEqProofs only [awl, ne_eq, srcRows, awo, aggEq, eqF, litEq, andO, qwl, qwo, Go.Ab.qOp, lop, oneK, stepOp, pairO, pureOp, heapOp, entry, slotsOf, ev, evL, evP, evO, lk, up, St.put, St.drop, constAV, cellAV, cellsAV, plain, binV, nilCmp, intBin, strBin, guardBit, boolOf, fnOf, intOfAV, bound, resOf, retV, moved, rowOf, valAt, Kd.agg, AV.cells, splice, places, fillAV, rowsFill, Hp.none, ↓reduceIte, reduceCtorEq, Nat.reduceLT, Nat.reduceEqDiff, Nat.reduceAdd, Nat.reduceLeDiff, Nat.reducePow, Nat.reduceMul, Yzz, Xzz, Yzy, tyW, Bool.true_or, Bool.false_or, Bool.not_true, Bool.not_false]
      have m0 : lk (⟨[], [], 0⟩ : Hp).boxes 0 = none := rfl
      refine aw_forE (joinWs ws vs).length 1 (jnS true true b2 ws vs) (JnI ws vs) (Nat.le_refl _) (0, 0, []) (St.wk.cp (St.wk_slots1 (by simp [lk]) (by simp [lk, grA]) (by simp [lk, grT]))) ⟨rfl, Nat.zero_le _, Nat.zero_le _, rfl⟩ ?_ ?_
      · rintro k ⟨i, j, r⟩ hk ⟨hl, hi, hj, he⟩
        simp only at hl hi hj he
        have ncast : ∀ n : Nat, (0 : Int) ≤ (n : Int) := Int.natCast_nonneg
        have hkk : k < ws.length + vs.length := by have := joinWs_len_le ws vs; omega
        have hfit0 : fits 1 24 := by decide
        cases r with
        | nil =>
          rcases Nat.lt_or_ge i ws.length with hi' | hi'
          · have i1 : (i : Int) < (ws.length : Int) := by omega
            have i3 : ((i : Int) == (ws.length : Int)) = false := by rw [beq_eq_false_iff_ne]; omega
            obtain ⟨w, hw⟩ : ∃ w, ws[i]? = some w := ⟨_, List.getElem?_eq_getElem hi'⟩
            have gw := map_getD encW hw
            have hwm : w ∈ ws := List.mem_of_getElem? hw
            have dw : ws.drop i = w :: ws.drop (i + 1) := by rw [List.drop_eq_getElem_cons hi', (List.getElem?_eq_some_iff.1 hw).2]
            rcases w with ⟨s, l, t⟩
            rcases Nat.lt_or_ge j vs.length with hj' | hj'
            · have j1 : (j : Int) < (vs.length : Int) := by omega
              have j3 : ((j : Int) == (vs.length : Int)) = false := by rw [beq_eq_false_iff_ne]; omega
              obtain ⟨v, hv⟩ : ∃ v, vs[j]? = some v := ⟨_, List.getElem?_eq_getElem hj'⟩
              have gv := map_getD encW hv
              have hvm : v ∈ vs := List.mem_of_getElem? hv
              have dv : vs.drop j = v :: vs.drop (j + 1) := by rw [List.drop_eq_getElem_cons hj', (List.getElem?_eq_some_iff.1 hv).2]
              rcases v with ⟨s', l', t'⟩
              rw [dw, dv, joinWs_cons] at he
              have ec : cmpF s l s' l' = cmpW (.mk s l t) (.mk s' l' t') := rfl
              simp -implicitDefEqProofs only [awl, ne_eq, srcRows, awo, aggEq, eqF, litEq, andO, qwl, qwo, Go.Ab.qOp, lop, oneK, stepOp, pairO, pureOp, heapOp, entry, slotsOf, ev, evL, evP, evO, lk, up, St.put, St.drop, constAV, cellAV, cellsAV, plain, binV, nilCmp, intBin, strBin, guardBit, boolOf, fnOf, intOfAV, bound, resOf, retV, moved, rowOf, valAt, Kd.agg, AV.cells, splice, places, fillAV, rowsFill, Hp.none, ↓reduceIte, reduceCtorEq, Nat.reduceLT, Nat.reduceEqDiff, Nat.reduceAdd, Nat.reduceLeDiff, Nat.reducePow, Nat.reduceMul, Yzz, Xzz, Yzy, tyW, jnS, List.map_nil, grA_nil, grT_nil, grN_nil, List.length_map, decide_true, decide_false, Bool.not_true, Bool.not_false, ncast, Int.toNat_natCast, i1, i3, j1, j3, gw, gv]
              refine aw_wk (σ' := jnS true true b2 ws vs k (i, j, [])) (St.wk_slots1 (by simp [lk]) (by simp [lk, grA]) (fun t => rfl)) ?_
              simp only [jnS, List.map_nil, grA_nil, grT_nil, grN_nil]
              refine aw_quietN (n := 182) rfl (by decide) mixed ?_
              simp -implicitDefEqProofs only [awl, ne_eq, srcRows, awo, aggEq, eqF, litEq, andO, qwl, qwo, Go.Ab.qOp, lop, oneK, stepOp, pairO, pureOp, heapOp, entry, slotsOf, ev, evL, evP, evO, lk, up, St.put, St.drop, constAV, cellAV, cellsAV, plain, binV, nilCmp, intBin, strBin, guardBit, boolOf, fnOf, intOfAV, bound, resOf, retV, moved, rowOf, valAt, Kd.agg, AV.cells, splice, places, fillAV, rowsFill, Hp.none, ↓reduceIte, reduceCtorEq, Nat.reduceLT, Nat.reduceEqDiff, Nat.reduceAdd, Nat.reduceLeDiff, Nat.reducePow, Nat.reduceMul, Yzz, Xzz, Yzy, tyW, jnS, List.map_nil, grA_nil, grT_nil, grN_nil, List.length_map, decide_true, decide_false, Bool.not_true, Bool.not_false, ncast, Int.toNat_natCast, i1, i3, j1, j3, gw, gv, encW, List.take]
              refine CallQ_pure call39 (spec39 s l s' l') (by simp [Pure.lit, Pure.agg]) (.lit _) ?_
              simp -implicitDefEqProofs only [awl, ne_eq, srcRows, awo, aggEq, eqF, litEq, andO, qwl, qwo, Go.Ab.qOp, lop, oneK, stepOp, pairO, pureOp, heapOp, entry, slotsOf, ev, evL, evP, evO, lk, up, St.put, St.drop, constAV, cellAV, cellsAV, plain, binV, nilCmp, intBin, strBin, guardBit, boolOf, fnOf, intOfAV, bound, resOf, retV, moved, rowOf, valAt, Kd.agg, AV.cells, splice, places, fillAV, rowsFill, Hp.none, ↓reduceIte, reduceCtorEq, Nat.reduceLT, Nat.reduceEqDiff, Nat.reduceAdd, Nat.reduceLeDiff, Nat.reducePow, Nat.reduceMul, Yzz, Xzz, Yzy, tyW]
              refine .intro (fun hc => ?_) (fun hc => ?_)
              · have hc : cmpW (.mk s l t) (.mk s' l' t') < 0 := by rw [← ec]; exact of_decide_eq_true hc
                rw [if_pos hc] at he
                simp -implicitDefEqProofs only [awl, ne_eq, srcRows, awo, aggEq, eqF, litEq, andO, qwl, qwo, Go.Ab.qOp, lop, oneK, stepOp, pairO, pureOp, heapOp, entry, slotsOf, ev, evL, evP, evO, lk, up, St.put, St.drop, constAV, cellAV, cellsAV, plain, binV, nilCmp, intBin, strBin, guardBit, boolOf, fnOf, intOfAV, bound, resOf, retV, moved, rowOf, valAt, Kd.agg, AV.cells, splice, places, fillAV, rowsFill, Hp.none, ↓reduceIte, reduceCtorEq, Nat.reduceLT, Nat.reduceEqDiff, Nat.reduceAdd, Nat.reduceLeDiff, Nat.reducePow, Nat.reduceMul, Yzz, Xzz, Yzy, tyW]
                refine aw_wk (σ' := jnS true true b2 ws vs k (i, j, [])) (St.wk_slots1 (by simp [lk]) (by simp [lk, grA]) (fun t => rfl)) ?_
                simp only [jnS, List.map_nil, grA_nil, grT_nil, grN_nil]
                refine aw_drawG (n := 182) (σ' := jnS true true b2 ws vs 0 (i, j, [.mk s l t])) 2 13 (.alt 14 (.alt 15 (.alt 16 .leaf .nil) .nil) .nil) rfl rfl (by decide) (by decide) (by decide) mixed (by kernel_rfl) (by decide) ?_ ?_
                · simp -implicitDefEqProofs only [awl, ne_eq, srcRows, awo, aggEq, eqF, litEq, andO, qwl, qwo, Go.Ab.qOp, lop, oneK, stepOp, pairO, pureOp, heapOp, entry, slotsOf, ev, evL, evP, evO, lk, up, St.put, St.drop, constAV, cellAV, cellsAV, plain, binV, nilCmp, intBin, strBin, guardBit, boolOf, fnOf, intOfAV, bound, resOf, retV, moved, rowOf, valAt, Kd.agg, AV.cells, splice, places, fillAV, rowsFill, Hp.none, ↓reduceIte, reduceCtorEq, Nat.reduceLT, Nat.reduceEqDiff, Nat.reduceAdd, Nat.reduceLeDiff, Nat.reducePow, Nat.reduceMul, Yzz, Xzz, Yzy, tyW, jnS, List.map_nil, grA_nil, grT_nil, grN_nil, List.length_map, decide_true, decide_false, Bool.not_true, Bool.not_false, ncast, Int.toNat_natCast, i1, i3, j1, j3, gw, gv, encW, List.take, List.mem_singleton, forall_eq, List.not_mem_nil, false_imp_iff, implies_true, hfit0]
                  exact St.wk.cp (St.le.wk (by simp [St.le, lk, jnS, encW, grA, grT, grN, List.map_append]))
                · simp -implicitDefEqProofs (disch := omega) only [awl, ne_eq, srcRows, awo, aggEq, eqF, litEq, andO, qwl, qwo, Go.Ab.qOp, lop, oneK, stepOp, pairO, pureOp, heapOp, entry, slotsOf, ev, evL, evP, evO, lk, up, St.put, St.drop, constAV, cellAV, cellsAV, plain, binV, nilCmp, intBin, strBin, guardBit, boolOf, fnOf, intOfAV, bound, resOf, retV, moved, rowOf, valAt, Kd.agg, AV.cells, splice, places, fillAV, rowsFill, Hp.none, ↓reduceIte, reduceCtorEq, Nat.reduceLT, Nat.reduceEqDiff, Nat.reduceAdd, Nat.reduceLeDiff, Nat.reducePow, Nat.reduceMul, Yzz, Xzz, Yzy, tyW, jnS, i64w]
                  exact ⟨(i + 1, j, [.mk s l t]), ⟨by simp [← hl], by show i + 1 ≤ _; omega, by show j ≤ _; omega, by rw [he, dv]; simp⟩, St.wk.cp (St.wk_slots (by simp [lk]))⟩
              · have hn : ¬ cmpW (.mk s l t) (.mk s' l' t') < 0 := by rw [← ec]; exact of_decide_eq_false hc
                rw [if_neg hn] at he
                simp -implicitDefEqProofs only [awl, ne_eq, srcRows, awo, aggEq, eqF, litEq, andO, qwl, qwo, Go.Ab.qOp, lop, oneK, stepOp, pairO, pureOp, heapOp, entry, slotsOf, ev, evL, evP, evO, lk, up, St.put, St.drop, constAV, cellAV, cellsAV, plain, binV, nilCmp, intBin, strBin, guardBit, boolOf, fnOf, intOfAV, bound, resOf, retV, moved, rowOf, valAt, Kd.agg, AV.cells, splice, places, fillAV, rowsFill, Hp.none, ↓reduceIte, reduceCtorEq, Nat.reduceLT, Nat.reduceEqDiff, Nat.reduceAdd, Nat.reduceLeDiff, Nat.reducePow, Nat.reduceMul, Yzz, Xzz, Yzy, tyW]
                refine .intro (fun hc => ?_) (fun hc => ?_)
                · have hc : cmpW (.mk s l t) (.mk s' l' t') > 0 := by rw [← ec]; exact of_decide_eq_true hc
                  rw [if_pos hc] at he
                  simp -implicitDefEqProofs only [awl, ne_eq, srcRows, awo, aggEq, eqF, litEq, andO, qwl, qwo, Go.Ab.qOp, lop, oneK, stepOp, pairO, pureOp, heapOp, entry, slotsOf, ev, evL, evP, evO, lk, up, St.put, St.drop, constAV, cellAV, cellsAV, plain, binV, nilCmp, intBin, strBin, guardBit, boolOf, fnOf, intOfAV, bound, resOf, retV, moved, rowOf, valAt, Kd.agg, AV.cells, splice, places, fillAV, rowsFill, Hp.none, ↓reduceIte, reduceCtorEq, Nat.reduceLT, Nat.reduceEqDiff, Nat.reduceAdd, Nat.reduceLeDiff, Nat.reducePow, Nat.reduceMul, Yzz, Xzz, Yzy, tyW]
                  refine aw_wk (σ' := jnS true true b2 ws vs k (i, j, [])) (St.wk_slots1 (by simp [lk]) (by simp [lk, grA]) (fun t => rfl)) ?_
                  simp only [jnS, List.map_nil, grA_nil, grT_nil, grN_nil]
                  refine aw_drawG (n := 182) (σ' := jnS true true b2 ws vs 0 (i, j, [.mk s' l' t'])) 2 13 (.alt 14 (.alt 15 (.alt 16 .leaf .nil) .nil) .nil) rfl rfl (by decide) (by decide) (by decide) mixed (by kernel_rfl) (by decide) ?_ ?_
                  · simp -implicitDefEqProofs only [awl, ne_eq, srcRows, awo, aggEq, eqF, litEq, andO, qwl, qwo, Go.Ab.qOp, lop, oneK, stepOp, pairO, pureOp, heapOp, entry, slotsOf, ev, evL, evP, evO, lk, up, St.put, St.drop, constAV, cellAV, cellsAV, plain, binV, nilCmp, intBin, strBin, guardBit, boolOf, fnOf, intOfAV, bound, resOf, retV, moved, rowOf, valAt, Kd.agg, AV.cells, splice, places, fillAV, rowsFill, Hp.none, ↓reduceIte, reduceCtorEq, Nat.reduceLT, Nat.reduceEqDiff, Nat.reduceAdd, Nat.reduceLeDiff, Nat.reducePow, Nat.reduceMul, Yzz, Xzz, Yzy, tyW, jnS, List.map_nil, grA_nil, grT_nil, grN_nil, List.length_map, decide_true, decide_false, Bool.not_true, Bool.not_false, ncast, Int.toNat_natCast, i1, i3, j1, j3, gw, gv, encW, List.take, List.mem_singleton, forall_eq, List.not_mem_nil, false_imp_iff, implies_true, hfit0]
                    exact St.wk.cp (St.le.wk (by simp [St.le, lk, jnS, encW, grA, grT, grN, List.map_append]))
                  · simp -implicitDefEqProofs (disch := omega) only [awl, ne_eq, srcRows, awo, aggEq, eqF, litEq, andO, qwl, qwo, Go.Ab.qOp, lop, oneK, stepOp, pairO, pureOp, heapOp, entry, slotsOf, ev, evL, evP, evO, lk, up, St.put, St.drop, constAV, cellAV, cellsAV, plain, binV, nilCmp, intBin, strBin, guardBit, boolOf, fnOf, intOfAV, bound, resOf, retV, moved, rowOf, valAt, Kd.agg, AV.cells, splice, places, fillAV, rowsFill, Hp.none, ↓reduceIte, reduceCtorEq, Nat.reduceLT, Nat.reduceEqDiff, Nat.reduceAdd, Nat.reduceLeDiff, Nat.reducePow, Nat.reduceMul, Yzz, Xzz, Yzy, tyW, jnS, i64w]
                    exact ⟨(i, j + 1, [.mk s' l' t']), ⟨by simp [← hl], by show i ≤ _; omega, by show j + 1 ≤ _; omega, by rw [he, dw]; simp⟩, St.wk.cp (St.wk_slots (by simp [lk]))⟩
                · have hn : ¬ cmpW (.mk s l t) (.mk s' l' t') > 0 := by rw [← ec]; exact of_decide_eq_false hc
                  rw [if_neg hn] at he
                  simp -implicitDefEqProofs only [awl, ne_eq, srcRows, awo, aggEq, eqF, litEq, andO, qwl, qwo, Go.Ab.qOp, lop, oneK, stepOp, pairO, pureOp, heapOp, entry, slotsOf, ev, evL, evP, evO, lk, up, St.put, St.drop, constAV, cellAV, cellsAV, plain, binV, nilCmp, intBin, strBin, guardBit, boolOf, fnOf, intOfAV, bound, resOf, retV, moved, rowOf, valAt, Kd.agg, AV.cells, splice, places, fillAV, rowsFill, Hp.none, ↓reduceIte, reduceCtorEq, Nat.reduceLT, Nat.reduceEqDiff, Nat.reduceAdd, Nat.reduceLeDiff, Nat.reducePow, Nat.reduceMul, Yzz, Xzz, Yzy, tyW]
                  refine aw_wk (σ' := jnS true true b2 ws vs k (i, j, [])) (St.wk_slots1 (by simp [lk]) (by simp [lk, grA]) (fun t => rfl)) ?_
                  simp only [jnS, List.map_nil, grA_nil, grT_nil, grN_nil]
                  refine aw_drawG (n := 182) (σ' := jnS true true b2 ws vs 0 (i, j, [.mk s l (joinTr t t')])) 2 33 (.alt 34 (.alt 35 (.alt 36 .leaf .nil) .nil) .nil) rfl rfl (by decide) (by decide) (by decide) mixed (by kernel_rfl) (by decide) ?_ ?_
                  · simp -implicitDefEqProofs only [awl, ne_eq, srcRows, awo, aggEq, eqF, litEq, andO, qwl, qwo, Go.Ab.qOp, lop, oneK, stepOp, pairO, pureOp, heapOp, entry, slotsOf, ev, evL, evP, evO, lk, up, St.put, St.drop, constAV, cellAV, cellsAV, plain, binV, nilCmp, intBin, strBin, guardBit, boolOf, fnOf, intOfAV, bound, resOf, retV, moved, rowOf, valAt, Kd.agg, AV.cells, splice, places, fillAV, rowsFill, Hp.none, ↓reduceIte, reduceCtorEq, Nat.reduceLT, Nat.reduceEqDiff, Nat.reduceAdd, Nat.reduceLeDiff, Nat.reducePow, Nat.reduceMul, Yzz, Xzz, Yzy, tyW, jnS, List.map_nil, grA_nil, grT_nil, grN_nil, List.length_map, decide_true, decide_false, Bool.not_true, Bool.not_false, ncast, Int.toNat_natCast, i1, i3, j1, j3, gw, gv, encW, List.take, List.mem_singleton, forall_eq, List.not_mem_nil, false_imp_iff, implies_true, hfit0]
                    refine CallQ_k call46 (ih (.mk s l t) hwm (.mk s' l' t') hvm) (allc (gp_encT _) (allc (gp_encT _) (allc (.mp 0) alln))) (gp_encT _) ?_
                    obtain ⟨cs, hcs⟩ : ∃ cs, encT (joinTr (Wy.mk s l t).t (Wy.mk s' l' t').t) = .np cs := np_encT _
                    have hcs' : encT (joinTr t t') = .np cs := hcs
                    simp -implicitDefEqProofs only [awl, ne_eq, srcRows, awo, aggEq, eqF, litEq, andO, qwl, qwo, Go.Ab.qOp, lop, oneK, stepOp, pairO, pureOp, heapOp, entry, slotsOf, ev, evL, evP, evO, lk, up, St.put, St.drop, constAV, cellAV, cellsAV, plain, binV, nilCmp, intBin, strBin, guardBit, boolOf, fnOf, intOfAV, bound, resOf, retV, moved, rowOf, valAt, Kd.agg, AV.cells, splice, places, fillAV, rowsFill, Hp.none, ↓reduceIte, reduceCtorEq, Nat.reduceLT, Nat.reduceEqDiff, Nat.reduceAdd, Nat.reduceLeDiff, Nat.reducePow, Nat.reduceMul, Yzz, Xzz, Yzy, tyW, List.mem_singleton, forall_eq, List.not_mem_nil, false_imp_iff, implies_true, hfit0, hcs]
                    exact St.wk.cp (St.le.wk (by simp [St.le, lk, jnS, encW, grA, grT, grN, List.map_append, ← hcs']))
                  · simp -implicitDefEqProofs (disch := omega) only [awl, ne_eq, srcRows, awo, aggEq, eqF, litEq, andO, qwl, qwo, Go.Ab.qOp, lop, oneK, stepOp, pairO, pureOp, heapOp, entry, slotsOf, ev, evL, evP, evO, lk, up, St.put, St.drop, constAV, cellAV, cellsAV, plain, binV, nilCmp, intBin, strBin, guardBit, boolOf, fnOf, intOfAV, bound, resOf, retV, moved, rowOf, valAt, Kd.agg, AV.cells, splice, places, fillAV, rowsFill, Hp.none, ↓reduceIte, reduceCtorEq, Nat.reduceLT, Nat.reduceEqDiff, Nat.reduceAdd, Nat.reduceLeDiff, Nat.reducePow, Nat.reduceMul, Yzz, Xzz, Yzy, tyW, jnS, i64w]
                    exact ⟨(i + 1, j + 1, [.mk s l (joinTr t t')]), ⟨by simp [← hl], by show i + 1 ≤ _; omega, by show j + 1 ≤ _; omega, by rw [he]; simp [Wy.s, Wy.l, Wy.t]⟩, St.wk.cp (St.wk_slots (by simp [lk]))⟩
            · have j2 : ¬ (j : Int) < (vs.length : Int) := by omega
              have j3 : ((j : Int) == (vs.length : Int)) = true := by rw [beq_iff_eq]; omega
              have c1 : ((-1 : Int) < 0) = True := by decide
              rw [dw, List.drop_eq_nil_of_le hj', joinWs_nil_right] at he
              simp -implicitDefEqProofs only [awl, ne_eq, srcRows, awo, aggEq, eqF, litEq, andO, qwl, qwo, Go.Ab.qOp, lop, oneK, stepOp, pairO, pureOp, heapOp, entry, slotsOf, ev, evL, evP, evO, lk, up, St.put, St.drop, constAV, cellAV, cellsAV, plain, binV, nilCmp, intBin, strBin, guardBit, boolOf, fnOf, intOfAV, bound, resOf, retV, moved, rowOf, valAt, Kd.agg, AV.cells, splice, places, fillAV, rowsFill, Hp.none, ↓reduceIte, reduceCtorEq, Nat.reduceLT, Nat.reduceEqDiff, Nat.reduceAdd, Nat.reduceLeDiff, Nat.reducePow, Nat.reduceMul, Yzz, Xzz, Yzy, tyW, jnS, List.map_nil, grA_nil, grT_nil, grN_nil, List.length_map, decide_true, decide_false, Bool.not_true, Bool.not_false, ncast, Int.toNat_natCast, i1, i3, j2, j3, gw, c1, encW, List.take]
              refine aw_wk (σ' := jnS true true b2 ws vs k (i, j, [])) (St.wk_slots1 (by simp [lk]) (by simp [lk, grA]) (fun t => rfl)) ?_
              simp only [jnS, List.map_nil, grA_nil, grT_nil, grN_nil]
              refine aw_drawG (n := 182) (σ' := jnS true true b2 ws vs 0 (i, j, [.mk s l t])) 2 13 (.alt 14 (.alt 15 (.alt 16 .leaf .nil) .nil) .nil) rfl rfl (by decide) (by decide) (by decide) mixed (by kernel_rfl) (by decide) ?_ ?_
              · simp -implicitDefEqProofs only [awl, ne_eq, srcRows, awo, aggEq, eqF, litEq, andO, qwl, qwo, Go.Ab.qOp, lop, oneK, stepOp, pairO, pureOp, heapOp, entry, slotsOf, ev, evL, evP, evO, lk, up, St.put, St.drop, constAV, cellAV, cellsAV, plain, binV, nilCmp, intBin, strBin, guardBit, boolOf, fnOf, intOfAV, bound, resOf, retV, moved, rowOf, valAt, Kd.agg, AV.cells, splice, places, fillAV, rowsFill, Hp.none, ↓reduceIte, reduceCtorEq, Nat.reduceLT, Nat.reduceEqDiff, Nat.reduceAdd, Nat.reduceLeDiff, Nat.reducePow, Nat.reduceMul, Yzz, Xzz, Yzy, tyW, jnS, List.map_nil, grA_nil, grT_nil, grN_nil, List.length_map, decide_true, decide_false, Bool.not_true, Bool.not_false, ncast, Int.toNat_natCast, i1, i3, j2, j3, gw, c1, encW, List.take, List.mem_singleton, forall_eq, List.not_mem_nil, false_imp_iff, implies_true, hfit0]
                exact St.wk.cp (St.le.wk (by simp [St.le, lk, jnS, encW, grA, grT, grN, List.map_append]))
              · simp -implicitDefEqProofs (disch := omega) only [awl, ne_eq, srcRows, awo, aggEq, eqF, litEq, andO, qwl, qwo, Go.Ab.qOp, lop, oneK, stepOp, pairO, pureOp, heapOp, entry, slotsOf, ev, evL, evP, evO, lk, up, St.put, St.drop, constAV, cellAV, cellsAV, plain, binV, nilCmp, intBin, strBin, guardBit, boolOf, fnOf, intOfAV, bound, resOf, retV, moved, rowOf, valAt, Kd.agg, AV.cells, splice, places, fillAV, rowsFill, Hp.none, ↓reduceIte, reduceCtorEq, Nat.reduceLT, Nat.reduceEqDiff, Nat.reduceAdd, Nat.reduceLeDiff, Nat.reducePow, Nat.reduceMul, Yzz, Xzz, Yzy, tyW, jnS, i64w]
                exact ⟨(i + 1, j, [.mk s l t]), ⟨by simp [← hl], by show i + 1 ≤ _; omega, by show j ≤ _; omega, by rw [he, List.drop_eq_nil_of_le hj', joinWs_nil_right]; simp⟩, St.wk.cp (St.wk_slots (by simp [lk]))⟩
          · have i2 : ¬ (i : Int) < (ws.length : Int) := by omega
            have i3 : ((i : Int) == (ws.length : Int)) = true := by rw [beq_iff_eq]; omega
            rw [List.drop_eq_nil_of_le hi', joinWs_nil_left] at he
            have hj' : j < vs.length := by
              have := congrArg List.length he
              simp only [List.length_append, List.length_drop] at this hl
              omega
            have j1 : (j : Int) < (vs.length : Int) := by omega
            have j3 : ((j : Int) == (vs.length : Int)) = false := by rw [beq_eq_false_iff_ne]; omega
            have c1 : ((1 : Int) < 0) = False := by decide
            have c2 : ((1 : Int) > 0) = True := by decide
            obtain ⟨v, hv⟩ : ∃ v, vs[j]? = some v := ⟨_, List.getElem?_eq_getElem hj'⟩
            have gv := map_getD encW hv
            have dv : vs.drop j = v :: vs.drop (j + 1) := by rw [List.drop_eq_getElem_cons hj', (List.getElem?_eq_some_iff.1 hv).2]
            rcases v with ⟨s', l', t'⟩
            rw [dv] at he
            simp -implicitDefEqProofs only [awl, ne_eq, srcRows, awo, aggEq, eqF, litEq, andO, qwl, qwo, Go.Ab.qOp, lop, oneK, stepOp, pairO, pureOp, heapOp, entry, slotsOf, ev, evL, evP, evO, lk, up, St.put, St.drop, constAV, cellAV, cellsAV, plain, binV, nilCmp, intBin, strBin, guardBit, boolOf, fnOf, intOfAV, bound, resOf, retV, moved, rowOf, valAt, Kd.agg, AV.cells, splice, places, fillAV, rowsFill, Hp.none, ↓reduceIte, reduceCtorEq, Nat.reduceLT, Nat.reduceEqDiff, Nat.reduceAdd, Nat.reduceLeDiff, Nat.reducePow, Nat.reduceMul, Yzz, Xzz, Yzy, tyW, jnS, List.map_nil, grA_nil, grT_nil, grN_nil, List.length_map, decide_true, decide_false, Bool.not_true, Bool.not_false, ncast, Int.toNat_natCast, i2, i3, j1, j3, gv, c1, c2, encW, List.take]
            refine aw_wk (σ' := jnS true true b2 ws vs k (i, j, [])) (St.wk_slots1 (by simp [lk]) (by simp [lk, grA]) (fun t => rfl)) ?_
            simp only [jnS, List.map_nil, grA_nil, grT_nil, grN_nil]
            refine aw_drawG (n := 182) (σ' := jnS true true b2 ws vs 0 (i, j, [.mk s' l' t'])) 2 13 (.alt 14 (.alt 15 (.alt 16 .leaf .nil) .nil) .nil) rfl rfl (by decide) (by decide) (by decide) mixed (by kernel_rfl) (by decide) ?_ ?_
            · simp -implicitDefEqProofs only [awl, ne_eq, srcRows, awo, aggEq, eqF, litEq, andO, qwl, qwo, Go.Ab.qOp, lop, oneK, stepOp, pairO, pureOp, heapOp, entry, slotsOf, ev, evL, evP, evO, lk, up, St.put, St.drop, constAV, cellAV, cellsAV, plain, binV, nilCmp, intBin, strBin, guardBit, boolOf, fnOf, intOfAV, bound, resOf, retV, moved, rowOf, valAt, Kd.agg, AV.cells, splice, places, fillAV, rowsFill, Hp.none, ↓reduceIte, reduceCtorEq, Nat.reduceLT, Nat.reduceEqDiff, Nat.reduceAdd, Nat.reduceLeDiff, Nat.reducePow, Nat.reduceMul, Yzz, Xzz, Yzy, tyW, jnS, List.map_nil, grA_nil, grT_nil, grN_nil, List.length_map, decide_true, decide_false, Bool.not_true, Bool.not_false, ncast, Int.toNat_natCast, i2, i3, j1, j3, gv, c1, c2, encW, List.take, List.mem_singleton, forall_eq, List.not_mem_nil, false_imp_iff, implies_true, hfit0]
              exact St.wk.cp (St.le.wk (by simp [St.le, lk, jnS, encW, grA, grT, grN, List.map_append]))
            · simp -implicitDefEqProofs (disch := omega) only [awl, ne_eq, srcRows, awo, aggEq, eqF, litEq, andO, qwl, qwo, Go.Ab.qOp, lop, oneK, stepOp, pairO, pureOp, heapOp, entry, slotsOf, ev, evL, evP, evO, lk, up, St.put, St.drop, constAV, cellAV, cellsAV, plain, binV, nilCmp, intBin, strBin, guardBit, boolOf, fnOf, intOfAV, bound, resOf, retV, moved, rowOf, valAt, Kd.agg, AV.cells, splice, places, fillAV, rowsFill, Hp.none, ↓reduceIte, reduceCtorEq, Nat.reduceLT, Nat.reduceEqDiff, Nat.reduceAdd, Nat.reduceLeDiff, Nat.reducePow, Nat.reduceMul, Yzz, Xzz, Yzy, tyW, jnS, i64w]
              exact ⟨(i, j + 1, [.mk s' l' t']), ⟨by simp [← hl], by show i ≤ _; omega, by show j + 1 ≤ _; omega, by rw [he, List.drop_eq_nil_of_le hi', joinWs_nil_left]; simp⟩, St.wk.cp (St.wk_slots (by simp [lk]))⟩
        | cons x r =>
          have hfit : fits (r.length + 1 + 1) 24 := by
            simp only [List.length_cons] at hl
            exact fits_of' (by omega) (by omega)
          have hlen3 : ∀ q ∈ encW x :: r.map encW, q.length = 3 := len_rows (x :: r)
          rcases Nat.lt_or_ge i ws.length with hi' | hi'
          · have i1 : (i : Int) < (ws.length : Int) := by omega
            have i3 : ((i : Int) == (ws.length : Int)) = false := by rw [beq_eq_false_iff_ne]; omega
            obtain ⟨w, hw⟩ : ∃ w, ws[i]? = some w := ⟨_, List.getElem?_eq_getElem hi'⟩
            have gw := map_getD encW hw
            have hwm : w ∈ ws := List.mem_of_getElem? hw
            have dw : ws.drop i = w :: ws.drop (i + 1) := by rw [List.drop_eq_getElem_cons hi', (List.getElem?_eq_some_iff.1 hw).2]
            rcases w with ⟨s, l, t⟩
            rcases Nat.lt_or_ge j vs.length with hj' | hj'
            · have j1 : (j : Int) < (vs.length : Int) := by omega
              have j3 : ((j : Int) == (vs.length : Int)) = false := by rw [beq_eq_false_iff_ne]; omega
              obtain ⟨v, hv⟩ : ∃ v, vs[j]? = some v := ⟨_, List.getElem?_eq_getElem hj'⟩
              have gv := map_getD encW hv
              have hvm : v ∈ vs := List.mem_of_getElem? hv
              have dv : vs.drop j = v :: vs.drop (j + 1) := by rw [List.drop_eq_getElem_cons hj', (List.getElem?_eq_some_iff.1 hv).2]
              rcases v with ⟨s', l', t'⟩
              rw [dw, dv, joinWs_cons] at he
              have ec : cmpF s l s' l' = cmpW (.mk s l t) (.mk s' l' t') := rfl
              simp -implicitDefEqProofs only [awl, ne_eq, srcRows, awo, aggEq, eqF, litEq, andO, qwl, qwo, Go.Ab.qOp, lop, oneK, stepOp, pairO, pureOp, heapOp, entry, slotsOf, ev, evL, evP, evO, lk, up, St.put, St.drop, constAV, cellAV, cellsAV, plain, binV, nilCmp, intBin, strBin, guardBit, boolOf, fnOf, intOfAV, bound, resOf, retV, moved, rowOf, valAt, Kd.agg, AV.cells, splice, places, fillAV, rowsFill, Hp.none, ↓reduceIte, reduceCtorEq, Nat.reduceLT, Nat.reduceEqDiff, Nat.reduceAdd, Nat.reduceLeDiff, Nat.reducePow, Nat.reduceMul, Yzz, Xzz, Yzy, tyW, jnS, List.map_cons, grA_cons, grT_cons, grN_cons, List.length_map, decide_true, decide_false, Bool.not_true, Bool.not_false, ncast, Int.toNat_natCast, i1, i3, j1, j3, gw, gv]
              refine aw_wk (σ' := jnS true true b2 ws vs k (i, j, (x :: r))) (St.wk_slots1 (by simp [lk]) (by simp [lk, grA]) (fun t => rfl)) ?_
              simp only [jnS, List.map_cons, grA_cons, grT_cons, grN_cons]
              refine aw_quietN (n := 182) rfl (by decide) mixed ?_
              simp -implicitDefEqProofs only [awl, ne_eq, srcRows, awo, aggEq, eqF, litEq, andO, qwl, qwo, Go.Ab.qOp, lop, oneK, stepOp, pairO, pureOp, heapOp, entry, slotsOf, ev, evL, evP, evO, lk, up, St.put, St.drop, constAV, cellAV, cellsAV, plain, binV, nilCmp, intBin, strBin, guardBit, boolOf, fnOf, intOfAV, bound, resOf, retV, moved, rowOf, valAt, Kd.agg, AV.cells, splice, places, fillAV, rowsFill, Hp.none, ↓reduceIte, reduceCtorEq, Nat.reduceLT, Nat.reduceEqDiff, Nat.reduceAdd, Nat.reduceLeDiff, Nat.reducePow, Nat.reduceMul, Yzz, Xzz, Yzy, tyW, jnS, List.map_cons, grA_cons, grT_cons, grN_cons, List.length_map, decide_true, decide_false, Bool.not_true, Bool.not_false, ncast, Int.toNat_natCast, i1, i3, j1, j3, gw, gv, encW, List.take]
              refine CallQ_pure call39 (spec39 s l s' l') (by simp [Pure.lit, Pure.agg]) (.lit _) ?_
              simp -implicitDefEqProofs only [awl, ne_eq, srcRows, awo, aggEq, eqF, litEq, andO, qwl, qwo, Go.Ab.qOp, lop, oneK, stepOp, pairO, pureOp, heapOp, entry, slotsOf, ev, evL, evP, evO, lk, up, St.put, St.drop, constAV, cellAV, cellsAV, plain, binV, nilCmp, intBin, strBin, guardBit, boolOf, fnOf, intOfAV, bound, resOf, retV, moved, rowOf, valAt, Kd.agg, AV.cells, splice, places, fillAV, rowsFill, Hp.none, ↓reduceIte, reduceCtorEq, Nat.reduceLT, Nat.reduceEqDiff, Nat.reduceAdd, Nat.reduceLeDiff, Nat.reducePow, Nat.reduceMul, Yzz, Xzz, Yzy, tyW]
              refine .intro (fun hc => ?_) (fun hc => ?_)
              · have hc : cmpW (.mk s l t) (.mk s' l' t') < 0 := by rw [← ec]; exact of_decide_eq_true hc
                rw [if_pos hc] at he
                simp -implicitDefEqProofs only [awl, ne_eq, srcRows, awo, aggEq, eqF, litEq, andO, qwl, qwo, Go.Ab.qOp, lop, oneK, stepOp, pairO, pureOp, heapOp, entry, slotsOf, ev, evL, evP, evO, lk, up, St.put, St.drop, constAV, cellAV, cellsAV, plain, binV, nilCmp, intBin, strBin, guardBit, boolOf, fnOf, intOfAV, bound, resOf, retV, moved, rowOf, valAt, Kd.agg, AV.cells, splice, places, fillAV, rowsFill, Hp.none, ↓reduceIte, reduceCtorEq, Nat.reduceLT, Nat.reduceEqDiff, Nat.reduceAdd, Nat.reduceLeDiff, Nat.reducePow, Nat.reduceMul, Yzz, Xzz, Yzy, tyW]
                refine aw_wk (σ' := jnS true true b2 ws vs k (i, j, (x :: r))) (St.wk_slots1 (by simp [lk]) (by simp [lk, grA]) (fun t => rfl)) ?_
                simp only [jnS, List.map_cons, grA_cons, grT_cons, grN_cons]
                refine aw_drawG (n := 182) (σ' := jnS true true b2 ws vs 0 (i, j, (x :: r ++ [.mk s l t]))) 2 13 (.alt 14 (.alt 15 (.alt 16 .leaf .nil) .nil) .nil) rfl rfl (by decide) (by decide) (by decide) mixed (by kernel_rfl) (by decide) ?_ ?_
                · simp -implicitDefEqProofs only [awl, ne_eq, srcRows, awo, aggEq, eqF, litEq, andO, qwl, qwo, Go.Ab.qOp, lop, oneK, stepOp, pairO, pureOp, heapOp, entry, slotsOf, ev, evL, evP, evO, lk, up, St.put, St.drop, constAV, cellAV, cellsAV, plain, binV, nilCmp, intBin, strBin, guardBit, boolOf, fnOf, intOfAV, bound, resOf, retV, moved, rowOf, valAt, Kd.agg, AV.cells, splice, places, fillAV, rowsFill, Hp.none, ↓reduceIte, reduceCtorEq, Nat.reduceLT, Nat.reduceEqDiff, Nat.reduceAdd, Nat.reduceLeDiff, Nat.reducePow, Nat.reduceMul, Yzz, Xzz, Yzy, tyW, jnS, List.map_cons, grA_cons, grT_cons, grN_cons, List.length_map, decide_true, decide_false, Bool.not_true, Bool.not_false, ncast, Int.toNat_natCast, i1, i3, j1, j3, gw, gv, encW, List.take, List.mem_singleton, forall_eq, List.not_mem_nil, false_imp_iff, implies_true, hfit, hlen3, List.length_map, List.cons_append]
                  exact St.wk.cp (St.le.wk (by simp [St.le, lk, jnS, encW, grA, grT, grN, List.map_append]))
                · simp -implicitDefEqProofs (disch := omega) only [awl, ne_eq, srcRows, awo, aggEq, eqF, litEq, andO, qwl, qwo, Go.Ab.qOp, lop, oneK, stepOp, pairO, pureOp, heapOp, entry, slotsOf, ev, evL, evP, evO, lk, up, St.put, St.drop, constAV, cellAV, cellsAV, plain, binV, nilCmp, intBin, strBin, guardBit, boolOf, fnOf, intOfAV, bound, resOf, retV, moved, rowOf, valAt, Kd.agg, AV.cells, splice, places, fillAV, rowsFill, Hp.none, ↓reduceIte, reduceCtorEq, Nat.reduceLT, Nat.reduceEqDiff, Nat.reduceAdd, Nat.reduceLeDiff, Nat.reducePow, Nat.reduceMul, Yzz, Xzz, Yzy, tyW, jnS, i64w]
                  exact ⟨(i + 1, j, (x :: r ++ [.mk s l t])), ⟨by simp [← hl], by show i + 1 ≤ _; omega, by show j ≤ _; omega, by rw [he, dv]; simp⟩, St.wk.cp (St.wk_slots (by simp [lk]))⟩
              · have hn : ¬ cmpW (.mk s l t) (.mk s' l' t') < 0 := by rw [← ec]; exact of_decide_eq_false hc
                rw [if_neg hn] at he
                simp -implicitDefEqProofs only [awl, ne_eq, srcRows, awo, aggEq, eqF, litEq, andO, qwl, qwo, Go.Ab.qOp, lop, oneK, stepOp, pairO, pureOp, heapOp, entry, slotsOf, ev, evL, evP, evO, lk, up, St.put, St.drop, constAV, cellAV, cellsAV, plain, binV, nilCmp, intBin, strBin, guardBit, boolOf, fnOf, intOfAV, bound, resOf, retV, moved, rowOf, valAt, Kd.agg, AV.cells, splice, places, fillAV, rowsFill, Hp.none, ↓reduceIte, reduceCtorEq, Nat.reduceLT, Nat.reduceEqDiff, Nat.reduceAdd, Nat.reduceLeDiff, Nat.reducePow, Nat.reduceMul, Yzz, Xzz, Yzy, tyW]
                refine .intro (fun hc => ?_) (fun hc => ?_)
                · have hc : cmpW (.mk s l t) (.mk s' l' t') > 0 := by rw [← ec]; exact of_decide_eq_true hc
                  rw [if_pos hc] at he
                  simp -implicitDefEqProofs only [awl, ne_eq, srcRows, awo, aggEq, eqF, litEq, andO, qwl, qwo, Go.Ab.qOp, lop, oneK, stepOp, pairO, pureOp, heapOp, entry, slotsOf, ev, evL, evP, evO, lk, up, St.put, St.drop, constAV, cellAV, cellsAV, plain, binV, nilCmp, intBin, strBin, guardBit, boolOf, fnOf, intOfAV, bound, resOf, retV, moved, rowOf, valAt, Kd.agg, AV.cells, splice, places, fillAV, rowsFill, Hp.none, ↓reduceIte, reduceCtorEq, Nat.reduceLT, Nat.reduceEqDiff, Nat.reduceAdd, Nat.reduceLeDiff, Nat.reducePow, Nat.reduceMul, Yzz, Xzz, Yzy, tyW]
                  refine aw_wk (σ' := jnS true true b2 ws vs k (i, j, (x :: r))) (St.wk_slots1 (by simp [lk]) (by simp [lk, grA]) (fun t => rfl)) ?_
                  simp only [jnS, List.map_cons, grA_cons, grT_cons, grN_cons]
                  refine aw_drawG (n := 182) (σ' := jnS true true b2 ws vs 0 (i, j, (x :: r ++ [.mk s' l' t']))) 2 13 (.alt 14 (.alt 15 (.alt 16 .leaf .nil) .nil) .nil) rfl rfl (by decide) (by decide) (by decide) mixed (by kernel_rfl) (by decide) ?_ ?_
                  · simp -implicitDefEqProofs only [awl, ne_eq, srcRows, awo, aggEq, eqF, litEq, andO, qwl, qwo, Go.Ab.qOp, lop, oneK, stepOp, pairO, pureOp, heapOp, entry, slotsOf, ev, evL, evP, evO, lk, up, St.put, St.drop, constAV, cellAV, cellsAV, plain, binV, nilCmp, intBin, strBin, guardBit, boolOf, fnOf, intOfAV, bound, resOf, retV, moved, rowOf, valAt, Kd.agg, AV.cells, splice, places, fillAV, rowsFill, Hp.none, ↓reduceIte, reduceCtorEq, Nat.reduceLT, Nat.reduceEqDiff, Nat.reduceAdd, Nat.reduceLeDiff, Nat.reducePow, Nat.reduceMul, Yzz, Xzz, Yzy, tyW, jnS, List.map_cons, grA_cons, grT_cons, grN_cons, List.length_map, decide_true, decide_false, Bool.not_true, Bool.not_false, ncast, Int.toNat_natCast, i1, i3, j1, j3, gw, gv, encW, List.take, List.mem_singleton, forall_eq, List.not_mem_nil, false_imp_iff, implies_true, hfit, hlen3, List.length_map, List.cons_append]
                    exact St.wk.cp (St.le.wk (by simp [St.le, lk, jnS, encW, grA, grT, grN, List.map_append]))
                  · simp -implicitDefEqProofs (disch := omega) only [awl, ne_eq, srcRows, awo, aggEq, eqF, litEq, andO, qwl, qwo, Go.Ab.qOp, lop, oneK, stepOp, pairO, pureOp, heapOp, entry, slotsOf, ev, evL, evP, evO, lk, up, St.put, St.drop, constAV, cellAV, cellsAV, plain, binV, nilCmp, intBin, strBin, guardBit, boolOf, fnOf, intOfAV, bound, resOf, retV, moved, rowOf, valAt, Kd.agg, AV.cells, splice, places, fillAV, rowsFill, Hp.none, ↓reduceIte, reduceCtorEq, Nat.reduceLT, Nat.reduceEqDiff, Nat.reduceAdd, Nat.reduceLeDiff, Nat.reducePow, Nat.reduceMul, Yzz, Xzz, Yzy, tyW, jnS, i64w]
                    exact ⟨(i, j + 1, (x :: r ++ [.mk s' l' t'])), ⟨by simp [← hl], by show i ≤ _; omega, by show j + 1 ≤ _; omega, by rw [he, dw]; simp⟩, St.wk.cp (St.wk_slots (by simp [lk]))⟩
                · have hn : ¬ cmpW (.mk s l t) (.mk s' l' t') > 0 := by rw [← ec]; exact of_decide_eq_false hc
                  rw [if_neg hn] at he
                  simp -implicitDefEqProofs only [awl, ne_eq, srcRows, awo, aggEq, eqF, litEq, andO, qwl, qwo, Go.Ab.qOp, lop, oneK, stepOp, pairO, pureOp, heapOp, entry, slotsOf, ev, evL, evP, evO, lk, up, St.put, St.drop, constAV, cellAV, cellsAV, plain, binV, nilCmp, intBin, strBin, guardBit, boolOf, fnOf, intOfAV, bound, resOf, retV, moved, rowOf, valAt, Kd.agg, AV.cells, splice, places, fillAV, rowsFill, Hp.none, ↓reduceIte, reduceCtorEq, Nat.reduceLT, Nat.reduceEqDiff, Nat.reduceAdd, Nat.reduceLeDiff, Nat.reducePow, Nat.reduceMul, Yzz, Xzz, Yzy, tyW]
                  refine aw_wk (σ' := jnS true true b2 ws vs k (i, j, (x :: r))) (St.wk_slots1 (by simp [lk]) (by simp [lk, grA]) (fun t => rfl)) ?_
                  simp only [jnS, List.map_cons, grA_cons, grT_cons, grN_cons]
                  refine aw_drawG (n := 182) (σ' := jnS true true b2 ws vs 0 (i, j, (x :: r ++ [.mk s l (joinTr t t')]))) 2 33 (.alt 34 (.alt 35 (.alt 36 .leaf .nil) .nil) .nil) rfl rfl (by decide) (by decide) (by decide) mixed (by kernel_rfl) (by decide) ?_ ?_
                  · simp -implicitDefEqProofs only [awl, ne_eq, srcRows, awo, aggEq, eqF, litEq, andO, qwl, qwo, Go.Ab.qOp, lop, oneK, stepOp, pairO, pureOp, heapOp, entry, slotsOf, ev, evL, evP, evO, lk, up, St.put, St.drop, constAV, cellAV, cellsAV, plain, binV, nilCmp, intBin, strBin, guardBit, boolOf, fnOf, intOfAV, bound, resOf, retV, moved, rowOf, valAt, Kd.agg, AV.cells, splice, places, fillAV, rowsFill, Hp.none, ↓reduceIte, reduceCtorEq, Nat.reduceLT, Nat.reduceEqDiff, Nat.reduceAdd, Nat.reduceLeDiff, Nat.reducePow, Nat.reduceMul, Yzz, Xzz, Yzy, tyW, jnS, List.map_cons, grA_cons, grT_cons, grN_cons, List.length_map, decide_true, decide_false, Bool.not_true, Bool.not_false, ncast, Int.toNat_natCast, i1, i3, j1, j3, gw, gv, encW, List.take, List.mem_singleton, forall_eq, List.not_mem_nil, false_imp_iff, implies_true, hfit, hlen3, List.length_map, List.cons_append]
                    refine CallQ_k call46 (ih (.mk s l t) hwm (.mk s' l' t') hvm) (allc (gp_encT _) (allc (gp_encT _) (allc (.mp 0) alln))) (gp_encT _) ?_
                    obtain ⟨cs, hcs⟩ : ∃ cs, encT (joinTr (Wy.mk s l t).t (Wy.mk s' l' t').t) = .np cs := np_encT _
                    have hcs' : encT (joinTr t t') = .np cs := hcs
                    simp -implicitDefEqProofs only [awl, ne_eq, srcRows, awo, aggEq, eqF, litEq, andO, qwl, qwo, Go.Ab.qOp, lop, oneK, stepOp, pairO, pureOp, heapOp, entry, slotsOf, ev, evL, evP, evO, lk, up, St.put, St.drop, constAV, cellAV, cellsAV, plain, binV, nilCmp, intBin, strBin, guardBit, boolOf, fnOf, intOfAV, bound, resOf, retV, moved, rowOf, valAt, Kd.agg, AV.cells, splice, places, fillAV, rowsFill, Hp.none, ↓reduceIte, reduceCtorEq, Nat.reduceLT, Nat.reduceEqDiff, Nat.reduceAdd, Nat.reduceLeDiff, Nat.reducePow, Nat.reduceMul, Yzz, Xzz, Yzy, tyW, List.mem_singleton, forall_eq, List.not_mem_nil, false_imp_iff, implies_true, hfit, hlen3, List.length_map, List.cons_append, hcs]
                    exact St.wk.cp (St.le.wk (by simp [St.le, lk, jnS, encW, grA, grT, grN, List.map_append, ← hcs']))
                  · simp -implicitDefEqProofs (disch := omega) only [awl, ne_eq, srcRows, awo, aggEq, eqF, litEq, andO, qwl, qwo, Go.Ab.qOp, lop, oneK, stepOp, pairO, pureOp, heapOp, entry, slotsOf, ev, evL, evP, evO, lk, up, St.put, St.drop, constAV, cellAV, cellsAV, plain, binV, nilCmp, intBin, strBin, guardBit, boolOf, fnOf, intOfAV, bound, resOf, retV, moved, rowOf, valAt, Kd.agg, AV.cells, splice, places, fillAV, rowsFill, Hp.none, ↓reduceIte, reduceCtorEq, Nat.reduceLT, Nat.reduceEqDiff, Nat.reduceAdd, Nat.reduceLeDiff, Nat.reducePow, Nat.reduceMul, Yzz, Xzz, Yzy, tyW, jnS, i64w]
                    exact ⟨(i + 1, j + 1, (x :: r ++ [.mk s l (joinTr t t')])), ⟨by simp [← hl], by show i + 1 ≤ _; omega, by show j + 1 ≤ _; omega, by rw [he]; simp [Wy.s, Wy.l, Wy.t]⟩, St.wk.cp (St.wk_slots (by simp [lk]))⟩
            · have j2 : ¬ (j : Int) < (vs.length : Int) := by omega
              have j3 : ((j : Int) == (vs.length : Int)) = true := by rw [beq_iff_eq]; omega
              have c1 : ((-1 : Int) < 0) = True := by decide
              rw [dw, List.drop_eq_nil_of_le hj', joinWs_nil_right] at he
              simp -implicitDefEqProofs only [awl, ne_eq, srcRows, awo, aggEq, eqF, litEq, andO, qwl, qwo, Go.Ab.qOp, lop, oneK, stepOp, pairO, pureOp, heapOp, entry, slotsOf, ev, evL, evP, evO, lk, up, St.put, St.drop, constAV, cellAV, cellsAV, plain, binV, nilCmp, intBin, strBin, guardBit, boolOf, fnOf, intOfAV, bound, resOf, retV, moved, rowOf, valAt, Kd.agg, AV.cells, splice, places, fillAV, rowsFill, Hp.none, ↓reduceIte, reduceCtorEq, Nat.reduceLT, Nat.reduceEqDiff, Nat.reduceAdd, Nat.reduceLeDiff, Nat.reducePow, Nat.reduceMul, Yzz, Xzz, Yzy, tyW, jnS, List.map_cons, grA_cons, grT_cons, grN_cons, List.length_map, decide_true, decide_false, Bool.not_true, Bool.not_false, ncast, Int.toNat_natCast, i1, i3, j2, j3, gw, c1, encW, List.take]
              refine aw_wk (σ' := jnS true true b2 ws vs k (i, j, (x :: r))) (St.wk_slots1 (by simp [lk]) (by simp [lk, grA]) (fun t => rfl)) ?_
              simp only [jnS, List.map_cons, grA_cons, grT_cons, grN_cons]
              refine aw_drawG (n := 182) (σ' := jnS true true b2 ws vs 0 (i, j, (x :: r ++ [.mk s l t]))) 2 13 (.alt 14 (.alt 15 (.alt 16 .leaf .nil) .nil) .nil) rfl rfl (by decide) (by decide) (by decide) mixed (by kernel_rfl) (by decide) ?_ ?_
              · simp -implicitDefEqProofs only [awl, ne_eq, srcRows, awo, aggEq, eqF, litEq, andO, qwl, qwo, Go.Ab.qOp, lop, oneK, stepOp, pairO, pureOp, heapOp, entry, slotsOf, ev, evL, evP, evO, lk, up, St.put, St.drop, constAV, cellAV, cellsAV, plain, binV, nilCmp, intBin, strBin, guardBit, boolOf, fnOf, intOfAV, bound, resOf, retV, moved, rowOf, valAt, Kd.agg, AV.cells, splice, places, fillAV, rowsFill, Hp.none, ↓reduceIte, reduceCtorEq, Nat.reduceLT, Nat.reduceEqDiff, Nat.reduceAdd, Nat.reduceLeDiff, Nat.reducePow, Nat.reduceMul, Yzz, Xzz, Yzy, tyW, jnS, List.map_cons, grA_cons, grT_cons, grN_cons, List.length_map, decide_true, decide_false, Bool.not_true, Bool.not_false, ncast, Int.toNat_natCast, i1, i3, j2, j3, gw, c1, encW, List.take, List.mem_singleton, forall_eq, List.not_mem_nil, false_imp_iff, implies_true, hfit, hlen3, List.length_map, List.cons_append]
                exact St.wk.cp (St.le.wk (by simp [St.le, lk, jnS, encW, grA, grT, grN, List.map_append]))
              · simp -implicitDefEqProofs (disch := omega) only [awl, ne_eq, srcRows, awo, aggEq, eqF, litEq, andO, qwl, qwo, Go.Ab.qOp, lop, oneK, stepOp, pairO, pureOp, heapOp, entry, slotsOf, ev, evL, evP, evO, lk, up, St.put, St.drop, constAV, cellAV, cellsAV, plain, binV, nilCmp, intBin, strBin, guardBit, boolOf, fnOf, intOfAV, bound, resOf, retV, moved, rowOf, valAt, Kd.agg, AV.cells, splice, places, fillAV, rowsFill, Hp.none, ↓reduceIte, reduceCtorEq, Nat.reduceLT, Nat.reduceEqDiff, Nat.reduceAdd, Nat.reduceLeDiff, Nat.reducePow, Nat.reduceMul, Yzz, Xzz, Yzy, tyW, jnS, i64w]
                exact ⟨(i + 1, j, (x :: r ++ [.mk s l t])), ⟨by simp [← hl], by show i + 1 ≤ _; omega, by show j ≤ _; omega, by rw [he, List.drop_eq_nil_of_le hj', joinWs_nil_right]; simp⟩, St.wk.cp (St.wk_slots (by simp [lk]))⟩
          · have i2 : ¬ (i : Int) < (ws.length : Int) := by omega
            have i3 : ((i : Int) == (ws.length : Int)) = true := by rw [beq_iff_eq]; omega
            rw [List.drop_eq_nil_of_le hi', joinWs_nil_left] at he
            have hj' : j < vs.length := by
              have := congrArg List.length he
              simp only [List.length_append, List.length_drop] at this hl
              omega
            have j1 : (j : Int) < (vs.length : Int) := by omega
            have j3 : ((j : Int) == (vs.length : Int)) = false := by rw [beq_eq_false_iff_ne]; omega
            have c1 : ((1 : Int) < 0) = False := by decide
            have c2 : ((1 : Int) > 0) = True := by decide
            obtain ⟨v, hv⟩ : ∃ v, vs[j]? = some v := ⟨_, List.getElem?_eq_getElem hj'⟩
            have gv := map_getD encW hv
            have dv : vs.drop j = v :: vs.drop (j + 1) := by rw [List.drop_eq_getElem_cons hj', (List.getElem?_eq_some_iff.1 hv).2]
            rcases v with ⟨s', l', t'⟩
            rw [dv] at he
            simp -implicitDefEqProofs only [awl, ne_eq, srcRows, awo, aggEq, eqF, litEq, andO, qwl, qwo, Go.Ab.qOp, lop, oneK, stepOp, pairO, pureOp, heapOp, entry, slotsOf, ev, evL, evP, evO, lk, up, St.put, St.drop, constAV, cellAV, cellsAV, plain, binV, nilCmp, intBin, strBin, guardBit, boolOf, fnOf, intOfAV, bound, resOf, retV, moved, rowOf, valAt, Kd.agg, AV.cells, splice, places, fillAV, rowsFill, Hp.none, ↓reduceIte, reduceCtorEq, Nat.reduceLT, Nat.reduceEqDiff, Nat.reduceAdd, Nat.reduceLeDiff, Nat.reducePow, Nat.reduceMul, Yzz, Xzz, Yzy, tyW, jnS, List.map_cons, grA_cons, grT_cons, grN_cons, List.length_map, decide_true, decide_false, Bool.not_true, Bool.not_false, ncast, Int.toNat_natCast, i2, i3, j1, j3, gv, c1, c2, encW, List.take]
            refine aw_wk (σ' := jnS true true b2 ws vs k (i, j, (x :: r))) (St.wk_slots1 (by simp [lk]) (by simp [lk, grA]) (fun t => rfl)) ?_
            simp only [jnS, List.map_cons, grA_cons, grT_cons, grN_cons]
            refine aw_drawG (n := 182) (σ' := jnS true true b2 ws vs 0 (i, j, (x :: r ++ [.mk s' l' t']))) 2 13 (.alt 14 (.alt 15 (.alt 16 .leaf .nil) .nil) .nil) rfl rfl (by decide) (by decide) (by decide) mixed (by kernel_rfl) (by decide) ?_ ?_
            · simp -implicitDefEqProofs only [awl, ne_eq, srcRows, awo, aggEq, eqF, litEq, andO, qwl, qwo, Go.Ab.qOp, lop, oneK, stepOp, pairO, pureOp, heapOp, entry, slotsOf, ev, evL, evP, evO, lk, up, St.put, St.drop, constAV, cellAV, cellsAV, plain, binV, nilCmp, intBin, strBin, guardBit, boolOf, fnOf, intOfAV, bound, resOf, retV, moved, rowOf, valAt, Kd.agg, AV.cells, splice, places, fillAV, rowsFill, Hp.none, ↓reduceIte, reduceCtorEq, Nat.reduceLT, Nat.reduceEqDiff, Nat.reduceAdd, Nat.reduceLeDiff, Nat.reducePow, Nat.reduceMul, Yzz, Xzz, Yzy, tyW, jnS, List.map_cons, grA_cons, grT_cons, grN_cons, List.length_map, decide_true, decide_false, Bool.not_true, Bool.not_false, ncast, Int.toNat_natCast, i2, i3, j1, j3, gv, c1, c2, encW, List.take, List.mem_singleton, forall_eq, List.not_mem_nil, false_imp_iff, implies_true, hfit, hlen3, List.length_map, List.cons_append]
              exact St.wk.cp (St.le.wk (by simp [St.le, lk, jnS, encW, grA, grT, grN, List.map_append]))
            · simp -implicitDefEqProofs (disch := omega) only [awl, ne_eq, srcRows, awo, aggEq, eqF, litEq, andO, qwl, qwo, Go.Ab.qOp, lop, oneK, stepOp, pairO, pureOp, heapOp, entry, slotsOf, ev, evL, evP, evO, lk, up, St.put, St.drop, constAV, cellAV, cellsAV, plain, binV, nilCmp, intBin, strBin, guardBit, boolOf, fnOf, intOfAV, bound, resOf, retV, moved, rowOf, valAt, Kd.agg, AV.cells, splice, places, fillAV, rowsFill, Hp.none, ↓reduceIte, reduceCtorEq, Nat.reduceLT, Nat.reduceEqDiff, Nat.reduceAdd, Nat.reduceLeDiff, Nat.reducePow, Nat.reduceMul, Yzz, Xzz, Yzy, tyW, jnS, i64w]
              exact ⟨(i, j + 1, (x :: r ++ [.mk s' l' t'])), ⟨by simp [← hl], by show i ≤ _; omega, by show j + 1 ≤ _; omega, by rw [he, List.drop_eq_nil_of_le hi', joinWs_nil_left]; simp⟩, St.wk.cp (St.wk_slots (by simp [lk]))⟩
      · rintro ⟨i, j, r⟩ ⟨hl, hi, hj, he⟩
        simp only at hl hi hj he
        have h0 : joinWs (ws.drop i) (vs.drop j) = [] := by
          have := congrArg List.length he
          simp only [List.length_append] at this
          exact List.length_eq_zero_iff.1 (by omega)
        have hij : i = ws.length ∧ j = vs.length := by
          have hd := joinWs_len_ge (ws.drop i) (vs.drop j)
          rw [h0] at hd
          simp only [List.length_drop, List.length_nil] at hd
          omega
        have i2 : ¬ (i : Int) < (ws.length : Int) := by omega
        have j2 : ¬ (j : Int) < (vs.length : Int) := by omega
        rw [h0, List.append_nil] at he
        simp -implicitDefEqProofs only [awl, ne_eq, srcRows, awo, aggEq, eqF, litEq, andO, qwl, qwo, Go.Ab.qOp, lop, oneK, stepOp, pairO, pureOp, heapOp, entry, slotsOf, ev, evL, evP, evO, lk, up, St.put, St.drop, constAV, cellAV, cellsAV, plain, binV, nilCmp, intBin, strBin, guardBit, boolOf, fnOf, intOfAV, bound, resOf, retV, moved, rowOf, valAt, Kd.agg, AV.cells, splice, places, fillAV, rowsFill, Hp.none, ↓reduceIte, reduceCtorEq, Nat.reduceLT, Nat.reduceEqDiff, Nat.reduceAdd, Nat.reduceLeDiff, Nat.reducePow, Nat.reduceMul, Yzz, Xzz, Yzy, tyW, jnS, List.length_map, i2, j2, decide_true, decide_false, Bool.not_true, Bool.not_false]
        refine stepK_wk (σ' := ⟨[(8, .np [.lit (.bool true), .vec (r.map encW) false]), (180, .np [.lit (.bool true), .vec (r.map encW) false]), (176, .mp 0), (179, .agg [.np [.lit (.bool true), .vec (ws.map encW) false], .np [.lit (.bool b2), .vec (vs.map encW) false]])], ⟨[], [], grN 1 (r.map encW)⟩, 182⟩) (node_frz (b := true) (t := 1) (s := 3) (rows := r.map encW) [(176, .mp 0), (179, .agg [.np [.lit (.bool true), .vec (ws.map encW) false], .np [.lit (.bool b2), .vec (vs.map encW) false]])] [8, 180] rfl (fun hr => lk_grT' hr) (by simp [lk]) (by simp [lk])) ?_
        have gp := gp_encT (joinTr (.mk true ws) (.mk b2 vs))
        have hev : encT (joinTr (.mk true ws) (.mk b2 vs)) = .np [.lit (.bool true), .vec (r.map encW) false] := by rw [joinTr_mk, he, encT_eq, encWs_map]; rfl
        refine stepK_mapUpdate (tag := 0) (S := isPP) (ka := .agg [encT (.mk true ws), encT (.mk b2 vs)]) (va := encT (joinTr (.mk true ws) (.mk b2 vs))) rfl (.pair pairNode) (fun _ _ => cinv0) rfl (by simp only [encT_eq, encWs_map]; rfl) (by rw [hev]; rfl) (isPP_T _ _) ⟨_, _, rfl, rfl⟩ (.agg (allc (gp_encT _) (allc (gp_encT _) alln))) gp ?_
        rw [hev] at gp
        simp -implicitDefEqProofs only [awl, ne_eq, srcRows, awo, aggEq, eqF, litEq, andO, qwl, qwo, Go.Ab.qOp, lop, oneK, stepOp, pairO, pureOp, heapOp, entry, slotsOf, ev, evL, evP, evO, lk, up, St.put, St.drop, constAV, cellAV, cellsAV, plain, binV, nilCmp, intBin, strBin, guardBit, boolOf, fnOf, intOfAV, bound, resOf, retV, moved, rowOf, valAt, Kd.agg, AV.cells, splice, places, fillAV, rowsFill, Hp.none, ↓reduceIte, reduceCtorEq, Nat.reduceLT, Nat.reduceEqDiff, Nat.reduceAdd, Nat.reduceLeDiff, Nat.reducePow, Nat.reduceMul, Yzz, Xzz, Yzy, tyW]
        rw [joinTr_mk, encT_eq, he, encWs_map]
        exact kexpo gp
    · rintro kb va ⟨a, b, rfl, rfl⟩ hs
      obtain ⟨e1, e2⟩ := same_pair hs
      cases same_encT e1
      cases same_encT e2
      have gp := gp_encT (joinTr (.mk true ws) (.mk b2 vs))
      rw [joinTr_mk, encT_eq] at gp ⊢
      simp -implicitDefEqProofs only [awl, ne_eq, srcRows, awo, aggEq, eqF, litEq, andO, qwl, qwo, Go.Ab.qOp, lop, oneK, stepOp, pairO, pureOp, heapOp, entry, slotsOf, ev, evL, evP, evO, lk, up, St.put, St.drop, constAV, cellAV, cellsAV, plain, binV, nilCmp, intBin, strBin, guardBit, boolOf, fnOf, intOfAV, bound, resOf, retV, moved, rowOf, valAt, Kd.agg, AV.cells, splice, places, fillAV, rowsFill, Hp.none, ↓reduceIte, reduceCtorEq, Nat.reduceLT, Nat.reduceEqDiff, Nat.reduceAdd, Nat.reduceLeDiff, Nat.reducePow, Nat.reduceMul, Yzz, Xzz, Yzy, tyW]
      exact kexpo gp
  · have : Tr.mk true ws = Tr.mk b2 vs := same_encT (by rw [encT_eq, encT_eq, encWs_map, encWs_map]; exact hq rfl)
    cases this
    have gp := gp_encT (.mk true ws)
    rw [join_idem ha]
    simp -implicitDefEqProofs only [awl, ne_eq, srcRows, awo, aggEq, eqF, litEq, andO, qwl, qwo, Go.Ab.qOp, lop, oneK, stepOp, pairO, pureOp, heapOp, entry, slotsOf, ev, evL, evP, evO, lk, up, St.put, St.drop, constAV, cellAV, cellsAV, plain, binV, nilCmp, intBin, strBin, guardBit, boolOf, fnOf, intOfAV, bound, resOf, retV, moved, rowOf, valAt, Kd.agg, AV.cells, splice, places, fillAV, rowsFill, Hp.none, ↓reduceIte, reduceCtorEq, Nat.reduceLT, Nat.reduceEqDiff, Nat.reduceAdd, Nat.reduceLeDiff, Nat.reducePow, Nat.reduceMul, Yzz, Xzz, Yzy, tyW, encT_eq, encWs_map] at gp ⊢
    exact kexpo gp
theorem joinC (n m : Nat) (hnm : n + m ≤ 2000000000) (a b : Tr) (ha : Wf a) (hb : Wf b) (na : Bnd n a) (nb : Bnd m b) : KCall Try.prog 46 [encT a, encT b, .mp 0] (encT (joinTr a b)) := by
  match a, b with
  | .mk b1 ws, .mk b2 vs =>
    have ih : ∀ w ∈ ws, ∀ v ∈ vs, KCall Try.prog 46 [encT w.t, encT v.t, .mp 0] (encT (joinTr w.t v.t)) := fun w hw v hv =>
      joinC n m hnm w.t v.t (ha.kid w hw) (hb.kid v hv) (na.kid w hw) (nb.kid v hv)
    cases b1
    · exact join_false n m hnm b2 ws vs ha hb na.len nb.len ih
    · exact join_true n m hnm b2 ws vs ha hb na.len nb.len ih
termination_by szT a
decreasing_by exact szT_kid hw
end Go.Proofs.Ytfnmdmadaljjkaa
end
