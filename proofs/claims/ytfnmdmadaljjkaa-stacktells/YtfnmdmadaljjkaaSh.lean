/- Contract: what every law asks at its end. Conditions: none. -/
import Derived.Test.YtfnmdmadaljjkaaXzz
import Derived.Test.YtfnmdmadaljjkaaSg
import Derived.Test.YtfnmdmadaljjkaaSe
section
namespace Go.Proofs.Ytfnmdmadaljjkaa
open Go.Ab
set_option linter.unusedSimpArgs false
set_option linter.unusedVariables false
set_option maxRecDepth 20000
set_option maxHeartbeats 4000000

def wkB : Option Tr := some (.mk false [.mk 2 0 (.mk false [.mk 1 0 (.mk true []), .mk 3 0 (.mk true [])])])
def wkG : Option Tr := some (.mk false [.mk 1 0 (.mk true []), .mk 3 0 (.mk true [])])
theorem wk_b : comb (ofO [(1, 0), (2, 0)]) (ofO [(3, 0), (2, 0)]) = wkB := by kernel_rfl
theorem wk_g : belowO 2 0 wkB = wkG := by kernel_rfl
theorem wk_r : stkO wkG [] = [[(1, 0)], [(3, 0)]] := by kernel_rfl
theorem bnd_ways {n : Nat} {b : Bool} {ws : List Wy} (h : ws.length ≤ n) (hk : ∀ w ∈ ws, Bnd n w.t) : Bnd n (.mk b ws) := .mk h hk
theorem wakes_spec : KCall Try.prog 18 [] (.lit (.bool true)) := by
  refine KCall_of (SCall_intro Try.func18 rfl Try.ntmps18 (rs := [.tmp 0]) rfl (by simp) ?_)
  simp -implicitDefEqProofs only [awl, ne_eq, srcRows, awo, aggEq, eqF, litEq, andO, qwl, qwo, Go.Ab.qOp, lop, oneK, stepOp, pairO, pureOp, heapOp, entry, slotsOf, ev, evL, evP, evO, lk, up, St.put, St.drop, constAV, cellAV, cellsAV, plain, binV, nilCmp, intBin, strBin, guardBit, boolOf, fnOf, intOfAV, bound, resOf, retV, moved, rowOf, valAt, Kd.agg, AV.cells, splice, places, fillAV, rowsFill, Hp.none, ↓reduceIte, reduceCtorEq, Nat.reduceLT, Nat.reduceEqDiff, Nat.reduceAdd, Nat.reduceLeDiff, Nat.reducePow, Nat.reduceMul, Yzz, Xzz, Yzy, tyW]
  have o1 := Of_spec [(1, 0), (2, 0)] (by simp) true
  have o2 := Of_spec [(3, 0), (2, 0)] (by simp) true
  have oj := Join_spec 1 1 (by decide) _ _ (ofO_ok [(1, 0), (2, 0)]).1 (ofO_ok [(3, 0), (2, 0)]).1 (ofO_ok [(1, 0), (2, 0)]).2 (ofO_ok [(3, 0), (2, 0)]).2
  have wb : WfO wkB := wk_b ▸ (ofO_ok [(1, 0), (2, 0)]).1.comb (ofO_ok [(3, 0), (2, 0)]).1
  have nb : BndO 2 wkB := wk_b ▸ (ofO_ok [(1, 0), (2, 0)]).2.comb (ofO_ok [(3, 0), (2, 0)]).2
  rw [wk_b] at oj
  refine aw_let (n := 83) (σ' := ⟨[(0, .lit (.bool false)), (1, .ptr 0 0), (2, .ptr 1 0), (3, .ptr 2 0), (4, .ptr 3 0)], ⟨[(0, [.lit (.int .i64 1), .lit (.int .i64 0)]), (1, [.lit (.int .i64 2), .lit (.int .i64 0)]), (2, [.lit (.int .i64 3), .lit (.int .i64 0)]), (3, [encO wkB])], [], 4⟩, 83⟩) 4 9 10 4 28 rfl rfl rfl rfl rfl (by decide) (by decide) mixed ?_ ?_
  · simp -implicitDefEqProofs only [awl, ne_eq, srcRows, awo, aggEq, eqF, litEq, andO, qwl, qwo, Go.Ab.qOp, lop, oneK, stepOp, pairO, pureOp, heapOp, entry, slotsOf, ev, evL, evP, evO, lk, up, St.put, St.drop, constAV, cellAV, cellsAV, plain, binV, nilCmp, intBin, strBin, guardBit, boolOf, fnOf, intOfAV, bound, resOf, retV, moved, rowOf, valAt, Kd.agg, AV.cells, splice, places, fillAV, rowsFill, Hp.none, ↓reduceIte, reduceCtorEq, Nat.reduceLT, Nat.reduceEqDiff, Nat.reduceAdd, Nat.reduceLeDiff, Nat.reducePow, Nat.reduceMul, Yzz, Xzz, Yzy, tyW, lop]
    refine CallQ_k call26 o1 (allc (.of_pure (.vec (pure_rows pure_encP [(1, 0), (2, 0)]))) alln) (gp_encB _) ?_
    simp -implicitDefEqProofs only [awl, ne_eq, srcRows, awo, aggEq, eqF, litEq, andO, qwl, qwo, Go.Ab.qOp, lop, oneK, stepOp, pairO, pureOp, heapOp, entry, slotsOf, ev, evL, evP, evO, lk, up, St.put, St.drop, constAV, cellAV, cellsAV, plain, binV, nilCmp, intBin, strBin, guardBit, boolOf, fnOf, intOfAV, bound, resOf, retV, moved, rowOf, valAt, Kd.agg, AV.cells, splice, places, fillAV, rowsFill, Hp.none, ↓reduceIte, reduceCtorEq, Nat.reduceLT, Nat.reduceEqDiff, Nat.reduceAdd, Nat.reduceLeDiff, Nat.reducePow, Nat.reduceMul, Yzz, Xzz, Yzy, tyW, lop]
    refine CallQ_k call26 o2 (allc (.of_pure (.vec (pure_rows pure_encP [(3, 0), (2, 0)]))) alln) (gp_encB _) ?_
    simp -implicitDefEqProofs only [awl, ne_eq, srcRows, awo, aggEq, eqF, litEq, andO, qwl, qwo, Go.Ab.qOp, lop, oneK, stepOp, pairO, pureOp, heapOp, entry, slotsOf, ev, evL, evP, evO, lk, up, St.put, St.drop, constAV, cellAV, cellsAV, plain, binV, nilCmp, intBin, strBin, guardBit, boolOf, fnOf, intOfAV, bound, resOf, retV, moved, rowOf, valAt, Kd.agg, AV.cells, splice, places, fillAV, rowsFill, Hp.none, ↓reduceIte, reduceCtorEq, Nat.reduceLT, Nat.reduceEqDiff, Nat.reduceAdd, Nat.reduceLeDiff, Nat.reducePow, Nat.reduceMul, Yzz, Xzz, Yzy, tyW, lop]
    refine CallQ_k call20 oj (allc (gp_encB _) (allc (gp_encB _) alln)) (gp_encB _) ?_
    simp -implicitDefEqProofs only [awl, ne_eq, srcRows, awo, aggEq, eqF, litEq, andO, qwl, qwo, Go.Ab.qOp, lop, oneK, stepOp, pairO, pureOp, heapOp, entry, slotsOf, ev, evL, evP, evO, lk, up, St.put, St.drop, constAV, cellAV, cellsAV, plain, binV, nilCmp, intBin, strBin, guardBit, boolOf, fnOf, intOfAV, bound, resOf, retV, moved, rowOf, valAt, Kd.agg, AV.cells, splice, places, fillAV, rowsFill, Hp.none, ↓reduceIte, reduceCtorEq, Nat.reduceLT, Nat.reduceEqDiff, Nat.reduceAdd, Nat.reduceLeDiff, Nat.reducePow, Nat.reduceMul, Yzz, Xzz, Yzy, tyW, lop, encB]
    refine ⟨rfl, St.wk.cp (St.wk_slots1 ?_ ?_ (fun t => rfl))⟩
    · simp [lk]
    · simp [lk]
  · simp -implicitDefEqProofs only [awl, ne_eq, srcRows, awo, aggEq, eqF, litEq, andO, qwl, qwo, Go.Ab.qOp, lop, oneK, stepOp, pairO, pureOp, heapOp, entry, slotsOf, ev, evL, evP, evO, lk, up, St.put, St.drop, constAV, cellAV, cellsAV, plain, binV, nilCmp, intBin, strBin, guardBit, boolOf, fnOf, intOfAV, bound, resOf, retV, moved, rowOf, valAt, Kd.agg, AV.cells, splice, places, fillAV, rowsFill, Hp.none, ↓reduceIte, reduceCtorEq, Nat.reduceLT, Nat.reduceEqDiff, Nat.reduceAdd, Nat.reduceLeDiff, Nat.reducePow, Nat.reduceMul, Yzz, Xzz, Yzy, tyW]
    refine CallK_k call14 (Tops_spec 2 (by decide) wkB nb) (allc (gp_encB _) alln) (.of_pure (.vec (pure_rows pure_enc2 (topsO wkB)))) ?_
    simp -implicitDefEqProofs only [awl, ne_eq, srcRows, awo, aggEq, eqF, litEq, andO, qwl, qwo, Go.Ab.qOp, lop, oneK, stepOp, pairO, pureOp, heapOp, entry, slotsOf, ev, evL, evP, evO, lk, up, St.put, St.drop, constAV, cellAV, cellsAV, plain, binV, nilCmp, intBin, strBin, guardBit, boolOf, fnOf, intOfAV, bound, resOf, retV, moved, rowOf, valAt, Kd.agg, AV.cells, splice, places, fillAV, rowsFill, Hp.none, ↓reduceIte, reduceCtorEq, Nat.reduceLT, Nat.reduceEqDiff, Nat.reduceAdd, Nat.reduceLeDiff, Nat.reducePow, Nat.reduceMul, Yzz, Xzz, Yzy, tyW]
    refine CallK_k call23 (wk_g ▸ Below_spec 2 (by decide) wkB wb nb 2 0) (allc (gp_encB _) (allc (.of_pure (.agg (allc (.lit _) (allc (.lit _) alln)))) alln)) (gp_encB _) ?_
    simp -implicitDefEqProofs only [awl, ne_eq, srcRows, awo, aggEq, eqF, litEq, andO, qwl, qwo, Go.Ab.qOp, lop, oneK, stepOp, pairO, pureOp, heapOp, entry, slotsOf, ev, evL, evP, evO, lk, up, St.put, St.drop, constAV, cellAV, cellsAV, plain, binV, nilCmp, intBin, strBin, guardBit, boolOf, fnOf, intOfAV, bound, resOf, retV, moved, rowOf, valAt, Kd.agg, AV.cells, splice, places, fillAV, rowsFill, Hp.none, ↓reduceIte, reduceCtorEq, Nat.reduceLT, Nat.reduceEqDiff, Nat.reduceAdd, Nat.reduceLeDiff, Nat.reducePow, Nat.reduceMul, Yzz, Xzz, Yzy, tyW]
    have ng : BndO 2 wkG := wk_g ▸ nb.below
    have hall := All_two 2 (by decide) wkG ng 9 (by decide) [[(1, 0)], [(3, 0)]] wk_r (by
      intro j x y hx hy
      match j with
      | 0 => cases hx; cases hy; decide
      | 1 => cases hy
      | j + 2 => cases hx) rfl (by simp) (fun t e => by cases e; decide)
    refine CallK_k call7 hall (allc (gp_encB _) (allc (.lit _) alln)) (.of_pure (.tup (allc (.vec (pure_rows pureR _)) (allc (.lit _) alln)))) ?_
    simp -implicitDefEqProofs only [awl, ne_eq, srcRows, awo, aggEq, eqF, litEq, andO, qwl, qwo, Go.Ab.qOp, lop, oneK, stepOp, pairO, pureOp, heapOp, entry, slotsOf, ev, evL, evP, evO, lk, up, St.put, St.drop, constAV, cellAV, cellsAV, plain, binV, nilCmp, intBin, strBin, guardBit, boolOf, fnOf, intOfAV, bound, resOf, retV, moved, rowOf, valAt, Kd.agg, AV.cells, splice, places, fillAV, rowsFill, Hp.none, ↓reduceIte, reduceCtorEq, Nat.reduceLT, Nat.reduceEqDiff, Nat.reduceAdd, Nat.reduceLeDiff, Nat.reducePow, Nat.reduceMul, Yzz, Xzz, Yzy, tyW]
    have e6 : [encR [(1, 0)], encR [(3, 0)]] = [[AV.vec [[.lit (.int .i64 1), .lit (.int .i64 0)]] false], [.vec [[.lit (.int .i64 3), .lit (.int .i64 0)]] false]] := rfl
    have e5 : (topsO wkB).map enc2 = [[.lit (.int .i64 2), .lit (.int .i64 0)]] := rfl
    have c2 : cntO wkB = 2 := by kernel_rfl
    have hh : bareO (hasO wkB [(3, 0), (2, 0)].reverse) = true := by kernel_rfl
    have hb : bareO wkB = false := rfl
    have he : bareO emptyO = true := rfl
    refine aw_wk (σ' := ⟨[(0, .lit (.bool false)), (1, .ptr 0 0), (2, .ptr 1 0), (3, .ptr 2 0), (4, .ptr 3 0), (5, .vec [[.lit (.int .i64 2), .lit (.int .i64 0)]] false), (6, .vec [[AV.vec [[.lit (.int .i64 1), .lit (.int .i64 0)]] false], [.vec [[.lit (.int .i64 3), .lit (.int .i64 0)]] false]] false), (7, .lit (.int .i64 0))], ⟨[(0, [.lit (.int .i64 1), .lit (.int .i64 0)]), (1, [.lit (.int .i64 2), .lit (.int .i64 0)]), (2, [.lit (.int .i64 3), .lit (.int .i64 0)]), (3, [encO wkB])], [], 4⟩, 83⟩) (St.wk_slots (by simp [lk, e5, e6])) ?_
    refine aw_quietN (n := 83) rfl (by decide) mixed ?_
    have k1 : (((1 : Nat) : Int) == 1) = true := rfl
    have k2 : (((2 : Nat) : Int) == 2) = true := rfl
    have k3 : ((2 : Int) == 2) = true := rfl
    have k4 : ((0 : Int) == 0) = true := rfl
    have z1 : ((0 : Int) ≤ 0) = True := by simp
    have z2 : ((0 : Int) < ((1 : Nat) : Int)) = True := by simp
    have z3 : ((0 : Int) < ((2 : Nat) : Int)) = True := by simp
    have z4 : Int.toNat 0 = 0 := rfl
    have z5 : ∀ (x : List AV) (l : List (List AV)), (x :: l).getD 0 [] = x := fun _ _ => rfl
    have k5 : ((1 : Int) == 1) = true := rfl
    simp -implicitDefEqProofs only [awl, ne_eq, srcRows, awo, aggEq, eqF, litEq, andO, qwl, qwo, Go.Ab.qOp, lop, oneK, stepOp, pairO, pureOp, heapOp, entry, slotsOf, ev, evL, evP, evO, lk, up, St.put, St.drop, constAV, cellAV, cellsAV, plain, binV, nilCmp, intBin, strBin, guardBit, boolOf, fnOf, intOfAV, bound, resOf, retV, moved, rowOf, valAt, Kd.agg, AV.cells, splice, places, fillAV, rowsFill, Hp.none, ↓reduceIte, reduceCtorEq, Nat.reduceLT, Nat.reduceEqDiff, Nat.reduceAdd, Nat.reduceLeDiff, Nat.reducePow, Nat.reduceMul, Yzz, Xzz, Yzy, tyW, k1, k2, k3, k4, k5, z1, z2, z3, z4, z5, Bool.and_self, Bool.not_true, Bool.not_false, c2, hb, he]
    have hs := Size_spec 2 (by decide) wkB nb
    refine CallQ_k call9 hs (allc (gp_encB _) alln) (.lit _) ?_
    simp -implicitDefEqProofs only [awl, ne_eq, srcRows, awo, aggEq, eqF, litEq, andO, qwl, qwo, Go.Ab.qOp, lop, oneK, stepOp, pairO, pureOp, heapOp, entry, slotsOf, ev, evL, evP, evO, lk, up, St.put, St.drop, constAV, cellAV, cellsAV, plain, binV, nilCmp, intBin, strBin, guardBit, boolOf, fnOf, intOfAV, bound, resOf, retV, moved, rowOf, valAt, Kd.agg, AV.cells, splice, places, fillAV, rowsFill, Hp.none, ↓reduceIte, reduceCtorEq, Nat.reduceLT, Nat.reduceEqDiff, Nat.reduceAdd, Nat.reduceLeDiff, Nat.reducePow, Nat.reduceMul, Yzz, Xzz, Yzy, tyW, k1, k2, k3, k4, k5, z1, z2, z3, z4, z5, Bool.and_self, Bool.not_true, Bool.not_false, c2, hb, he]
    have hhas := Has_spec 2 (by decide) wkB wb nb [(3, 0), (2, 0)] (by simp) true
    refine CallQ_k call10 hhas (allc (gp_encB _) (allc (.of_pure (.vec (pure_rows pure_encP [(3, 0), (2, 0)]))) alln)) (.lit _) ?_
    simp -implicitDefEqProofs only [awl, ne_eq, srcRows, awo, aggEq, eqF, litEq, andO, qwl, qwo, Go.Ab.qOp, lop, oneK, stepOp, pairO, pureOp, heapOp, entry, slotsOf, ev, evL, evP, evO, lk, up, St.put, St.drop, constAV, cellAV, cellsAV, plain, binV, nilCmp, intBin, strBin, guardBit, boolOf, fnOf, intOfAV, bound, resOf, retV, moved, rowOf, valAt, Kd.agg, AV.cells, splice, places, fillAV, rowsFill, Hp.none, ↓reduceIte, reduceCtorEq, Nat.reduceLT, Nat.reduceEqDiff, Nat.reduceAdd, Nat.reduceLeDiff, Nat.reducePow, Nat.reduceMul, Yzz, Xzz, Yzy, tyW, k1, k2, k3, k4, k5, z1, z2, z3, z4, z5, Bool.and_self, Bool.not_true, Bool.not_false, c2, hb, he, hh]
    refine CallQ_k call12 (Bare_spec wkB) (allc (gp_encB _) alln) (.lit _) ?_
    simp -implicitDefEqProofs only [awl, ne_eq, srcRows, awo, aggEq, eqF, litEq, andO, qwl, qwo, Go.Ab.qOp, lop, oneK, stepOp, pairO, pureOp, heapOp, entry, slotsOf, ev, evL, evP, evO, lk, up, St.put, St.drop, constAV, cellAV, cellsAV, plain, binV, nilCmp, intBin, strBin, guardBit, boolOf, fnOf, intOfAV, bound, resOf, retV, moved, rowOf, valAt, Kd.agg, AV.cells, splice, places, fillAV, rowsFill, Hp.none, ↓reduceIte, reduceCtorEq, Nat.reduceLT, Nat.reduceEqDiff, Nat.reduceAdd, Nat.reduceLeDiff, Nat.reducePow, Nat.reduceMul, Yzz, Xzz, Yzy, tyW, k1, k2, k3, k4, k5, z1, z2, z3, z4, z5, Bool.and_self, Bool.not_true, Bool.not_false, c2, hb, he]
    refine CallQ_k call24 Empty_spec alln (gp_encB emptyO) ?_
    simp -implicitDefEqProofs only [awl, ne_eq, srcRows, awo, aggEq, eqF, litEq, andO, qwl, qwo, Go.Ab.qOp, lop, oneK, stepOp, pairO, pureOp, heapOp, entry, slotsOf, ev, evL, evP, evO, lk, up, St.put, St.drop, constAV, cellAV, cellsAV, plain, binV, nilCmp, intBin, strBin, guardBit, boolOf, fnOf, intOfAV, bound, resOf, retV, moved, rowOf, valAt, Kd.agg, AV.cells, splice, places, fillAV, rowsFill, Hp.none, ↓reduceIte, reduceCtorEq, Nat.reduceLT, Nat.reduceEqDiff, Nat.reduceAdd, Nat.reduceLeDiff, Nat.reducePow, Nat.reduceMul, Yzz, Xzz, Yzy, tyW, k1, k2, k3, k4, k5, z1, z2, z3, z4, z5, Bool.and_self, Bool.not_true, Bool.not_false, c2, hb, he]
    refine CallQ_k call12 (Bare_spec emptyO) (allc (gp_encB _) alln) (.lit _) ?_
    simp -implicitDefEqProofs only [awl, ne_eq, srcRows, awo, aggEq, eqF, litEq, andO, qwl, qwo, Go.Ab.qOp, lop, oneK, stepOp, pairO, pureOp, heapOp, entry, slotsOf, ev, evL, evP, evO, lk, up, St.put, St.drop, constAV, cellAV, cellsAV, plain, binV, nilCmp, intBin, strBin, guardBit, boolOf, fnOf, intOfAV, bound, resOf, retV, moved, rowOf, valAt, Kd.agg, AV.cells, splice, places, fillAV, rowsFill, Hp.none, ↓reduceIte, reduceCtorEq, Nat.reduceLT, Nat.reduceEqDiff, Nat.reduceAdd, Nat.reduceLeDiff, Nat.reducePow, Nat.reduceMul, Yzz, Xzz, Yzy, tyW, k1, k2, k3, k4, k5, z1, z2, z3, z4, z5, Bool.and_self, Bool.not_true, Bool.not_false, c2, hb, he]
    refine CallQ_k call21 None_spec alln (gp_encB none) ?_
    simp -implicitDefEqProofs only [awl, ne_eq, srcRows, awo, aggEq, eqF, litEq, andO, qwl, qwo, Go.Ab.qOp, lop, oneK, stepOp, pairO, pureOp, heapOp, entry, slotsOf, ev, evL, evP, evO, lk, up, St.put, St.drop, constAV, cellAV, cellsAV, plain, binV, nilCmp, intBin, strBin, guardBit, boolOf, fnOf, intOfAV, bound, resOf, retV, moved, rowOf, valAt, Kd.agg, AV.cells, splice, places, fillAV, rowsFill, Hp.none, ↓reduceIte, reduceCtorEq, Nat.reduceLT, Nat.reduceEqDiff, Nat.reduceAdd, Nat.reduceLeDiff, Nat.reducePow, Nat.reduceMul, Yzz, Xzz, Yzy, tyW, k1, k2, k3, k4, k5, z1, z2, z3, z4, z5, Bool.and_self, Bool.not_true, Bool.not_false, c2, hb, he]
    refine CallQ_k call9 (Size_spec 2 (by decide) none BndO.none) (allc (gp_encB _) alln) (.lit _) ?_
    have c0 : cntO none = 0 := rfl
    simp -implicitDefEqProofs only [awl, ne_eq, srcRows, awo, aggEq, eqF, litEq, andO, qwl, qwo, Go.Ab.qOp, lop, oneK, stepOp, pairO, pureOp, heapOp, entry, slotsOf, ev, evL, evP, evO, lk, up, St.put, St.drop, constAV, cellAV, cellsAV, plain, binV, nilCmp, intBin, strBin, guardBit, boolOf, fnOf, intOfAV, bound, resOf, retV, moved, rowOf, valAt, Kd.agg, AV.cells, splice, places, fillAV, rowsFill, Hp.none, ↓reduceIte, reduceCtorEq, Nat.reduceLT, Nat.reduceEqDiff, Nat.reduceAdd, Nat.reduceLeDiff, Nat.reducePow, Nat.reduceMul, Yzz, Xzz, Yzy, tyW, k1, k2, k3, k4, k5, z1, z2, z3, z4, z5, Bool.and_self, Bool.not_true, Bool.not_false, c2, hb, he, c0]
    exact kexpo (.lit _)
end Go.Proofs.Ytfnmdmadaljjkaa
end
