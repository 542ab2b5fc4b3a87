/- Contract: what every law asks at its end. Conditions: none. Contract: sets of stacks are sets. Conditions: none. -/
import Derived.Test.YtfnmdmadaljjkaaXzz
import Derived.Test.YtfnmdmadaljjkaaSg
import Derived.Test.YtfnmdmadaljjkaaSe
import Derived.Test.YtfnmdmadaljjkaaDrawN
section
namespace Go.Proofs.Ytfnmdmadaljjkaa
open Go.Ab
set_option linter.unusedSimpArgs false
set_option linter.unusedVariables false
set_option maxRecDepth 20000
set_option maxHeartbeats 4000000

def wkB : Option Tr := some (.mk false [.mk 2 0 (.mk false [.mk 1 0 (.mk true []), .mk 3 0 (.mk true [])])])
def wkG : Option Tr := some (.mk false [.mk 1 0 (.mk true []), .mk 3 0 (.mk true [])])
theorem wk_b : comb (ofO [(1, 0), (2, 0)]) (ofO [(3, 0), (2, 0)]) = wkB := by kernel_rfl
theorem wk_g : belowO 2 0 wkB = wkG := by kernel_rfl
theorem wk_r : stkO wkG [] = [[(1, 0)], [(3, 0)]] := by kernel_rfl
theorem bnd_ways {n : Nat} {b : Bool} {ws : List Wy} (h : ws.length ≤ n) (hk : ∀ w ∈ ws, Bnd n w.t) : Bnd n (.mk b ws) := .mk h hk
theorem wakes_spec : KCall Try.prog 18 [] (.lit (.bool true)) := by
  refine KCall_of (SCall_intro Try.func18 rfl Try.ntmps18 (rs := [.tmp 0]) rfl (by simp) ?_)
  simp -implicitDefEqProofs only [awl, ne_eq, srcRows, awo, aggEq, eqF, litEq, andO, qwl, qwo, qOp, lop, oneK, stepOp, pairO, pureOp, heapOp, entry, slotsOf, ev, evL, evP, evO, lk, up, St.put, St.drop, constAV, cellAV, cellsAV, plain, binV, nilCmp, intBin, strBin, guardBit, boolOf, fnOf, intOfAV, bound, resOf, retV, moved, rowOf, valAt, Kd.agg, AV.cells, splice, places, fillAV, rowsFill, Hp.none, ↓reduceIte, reduceCtorEq, Nat.reduceLT, Nat.reduceEqDiff, Nat.reduceAdd, Nat.reduceLeDiff, Nat.reducePow, Nat.reduceMul, Yzz, Xzz, Yzy, tyW]
  have o1 := Of_spec [(1, 0), (2, 0)] (by simp) true
  have o2 := Of_spec [(3, 0), (2, 0)] (by simp) true
  have oj := Join_spec 1 1 (by decide) _ _ (ofO_ok [(1, 0), (2, 0)]).1 (ofO_ok [(3, 0), (2, 0)]).1 (ofO_ok [(1, 0), (2, 0)]).2 (ofO_ok [(3, 0), (2, 0)]).2
  have wb : WfO wkB := wk_b ▸ (ofO_ok [(1, 0), (2, 0)]).1.comb (ofO_ok [(3, 0), (2, 0)]).1
  have nb : BndO 2 wkB := wk_b ▸ (ofO_ok [(1, 0), (2, 0)]).2.comb (ofO_ok [(3, 0), (2, 0)]).2
  rw [wk_b] at oj
  refine aw_let (n := 83) (σ' := ⟨[(0, .lit (.bool false)), (1, .ptr 0 0), (2, .ptr 1 0), (3, .ptr 2 0), (4, .ptr 3 0)], ⟨[(0, [.lit (.int .i64 1), .lit (.int .i64 0)]), (1, [.lit (.int .i64 2), .lit (.int .i64 0)]), (2, [.lit (.int .i64 3), .lit (.int .i64 0)]), (3, [encO wkB])], [], 4⟩, 83⟩) 4 9 10 4 28 rfl rfl rfl rfl rfl (by decide) (by decide) mixed ?_ ?_
  · simp -implicitDefEqProofs only [awl, ne_eq, srcRows, awo, aggEq, eqF, litEq, andO, qwl, qwo, qOp, lop, oneK, stepOp, pairO, pureOp, heapOp, entry, slotsOf, ev, evL, evP, evO, lk, up, St.put, St.drop, constAV, cellAV, cellsAV, plain, binV, nilCmp, intBin, strBin, guardBit, boolOf, fnOf, intOfAV, bound, resOf, retV, moved, rowOf, valAt, Kd.agg, AV.cells, splice, places, fillAV, rowsFill, Hp.none, ↓reduceIte, reduceCtorEq, Nat.reduceLT, Nat.reduceEqDiff, Nat.reduceAdd, Nat.reduceLeDiff, Nat.reducePow, Nat.reduceMul, Yzz, Xzz, Yzy, tyW, lop]
    refine CallQ_k call26 o1 (allc (.of_pure (.vec (pure_rows pure_encP [(1, 0), (2, 0)]))) alln) (gp_encB _) ?_
    simp -implicitDefEqProofs only [awl, ne_eq, srcRows, awo, aggEq, eqF, litEq, andO, qwl, qwo, qOp, lop, oneK, stepOp, pairO, pureOp, heapOp, entry, slotsOf, ev, evL, evP, evO, lk, up, St.put, St.drop, constAV, cellAV, cellsAV, plain, binV, nilCmp, intBin, strBin, guardBit, boolOf, fnOf, intOfAV, bound, resOf, retV, moved, rowOf, valAt, Kd.agg, AV.cells, splice, places, fillAV, rowsFill, Hp.none, ↓reduceIte, reduceCtorEq, Nat.reduceLT, Nat.reduceEqDiff, Nat.reduceAdd, Nat.reduceLeDiff, Nat.reducePow, Nat.reduceMul, Yzz, Xzz, Yzy, tyW, lop]
    refine CallQ_k call26 o2 (allc (.of_pure (.vec (pure_rows pure_encP [(3, 0), (2, 0)]))) alln) (gp_encB _) ?_
    simp -implicitDefEqProofs only [awl, ne_eq, srcRows, awo, aggEq, eqF, litEq, andO, qwl, qwo, qOp, lop, oneK, stepOp, pairO, pureOp, heapOp, entry, slotsOf, ev, evL, evP, evO, lk, up, St.put, St.drop, constAV, cellAV, cellsAV, plain, binV, nilCmp, intBin, strBin, guardBit, boolOf, fnOf, intOfAV, bound, resOf, retV, moved, rowOf, valAt, Kd.agg, AV.cells, splice, places, fillAV, rowsFill, Hp.none, ↓reduceIte, reduceCtorEq, Nat.reduceLT, Nat.reduceEqDiff, Nat.reduceAdd, Nat.reduceLeDiff, Nat.reducePow, Nat.reduceMul, Yzz, Xzz, Yzy, tyW, lop]
    refine CallQ_k call20 oj (allc (gp_encB _) (allc (gp_encB _) alln)) (gp_encB _) ?_
    simp -implicitDefEqProofs only [awl, ne_eq, srcRows, awo, aggEq, eqF, litEq, andO, qwl, qwo, qOp, lop, oneK, stepOp, pairO, pureOp, heapOp, entry, slotsOf, ev, evL, evP, evO, lk, up, St.put, St.drop, constAV, cellAV, cellsAV, plain, binV, nilCmp, intBin, strBin, guardBit, boolOf, fnOf, intOfAV, bound, resOf, retV, moved, rowOf, valAt, Kd.agg, AV.cells, splice, places, fillAV, rowsFill, Hp.none, ↓reduceIte, reduceCtorEq, Nat.reduceLT, Nat.reduceEqDiff, Nat.reduceAdd, Nat.reduceLeDiff, Nat.reducePow, Nat.reduceMul, Yzz, Xzz, Yzy, tyW, lop, encB]
    refine ⟨rfl, St.wk.cp (St.wk_slots1 ?_ ?_ (fun t => rfl))⟩
    · simp [lk]
    · simp [lk]
  · simp -implicitDefEqProofs only [awl, ne_eq, srcRows, awo, aggEq, eqF, litEq, andO, qwl, qwo, qOp, lop, oneK, stepOp, pairO, pureOp, heapOp, entry, slotsOf, ev, evL, evP, evO, lk, up, St.put, St.drop, constAV, cellAV, cellsAV, plain, binV, nilCmp, intBin, strBin, guardBit, boolOf, fnOf, intOfAV, bound, resOf, retV, moved, rowOf, valAt, Kd.agg, AV.cells, splice, places, fillAV, rowsFill, Hp.none, ↓reduceIte, reduceCtorEq, Nat.reduceLT, Nat.reduceEqDiff, Nat.reduceAdd, Nat.reduceLeDiff, Nat.reducePow, Nat.reduceMul, Yzz, Xzz, Yzy, tyW]
    refine CallK_k call14 (Tops_spec 2 (by decide) wkB nb) (allc (gp_encB _) alln) (.of_pure (.vec (pure_rows pure_enc2 (topsO wkB)))) ?_
    simp -implicitDefEqProofs only [awl, ne_eq, srcRows, awo, aggEq, eqF, litEq, andO, qwl, qwo, qOp, lop, oneK, stepOp, pairO, pureOp, heapOp, entry, slotsOf, ev, evL, evP, evO, lk, up, St.put, St.drop, constAV, cellAV, cellsAV, plain, binV, nilCmp, intBin, strBin, guardBit, boolOf, fnOf, intOfAV, bound, resOf, retV, moved, rowOf, valAt, Kd.agg, AV.cells, splice, places, fillAV, rowsFill, Hp.none, ↓reduceIte, reduceCtorEq, Nat.reduceLT, Nat.reduceEqDiff, Nat.reduceAdd, Nat.reduceLeDiff, Nat.reducePow, Nat.reduceMul, Yzz, Xzz, Yzy, tyW]
    refine CallK_k call23 (wk_g ▸ Below_spec 2 (by decide) wkB wb nb 2 0) (allc (gp_encB _) (allc (.of_pure (.agg (allc (.lit _) (allc (.lit _) alln)))) alln)) (gp_encB _) ?_
    simp -implicitDefEqProofs only [awl, ne_eq, srcRows, awo, aggEq, eqF, litEq, andO, qwl, qwo, qOp, lop, oneK, stepOp, pairO, pureOp, heapOp, entry, slotsOf, ev, evL, evP, evO, lk, up, St.put, St.drop, constAV, cellAV, cellsAV, plain, binV, nilCmp, intBin, strBin, guardBit, boolOf, fnOf, intOfAV, bound, resOf, retV, moved, rowOf, valAt, Kd.agg, AV.cells, splice, places, fillAV, rowsFill, Hp.none, ↓reduceIte, reduceCtorEq, Nat.reduceLT, Nat.reduceEqDiff, Nat.reduceAdd, Nat.reduceLeDiff, Nat.reducePow, Nat.reduceMul, Yzz, Xzz, Yzy, tyW]
    have ng : BndO 2 wkG := wk_g ▸ nb.below
    have hall := All_two 2 (by decide) wkG ng 9 (by decide) [[(1, 0)], [(3, 0)]] wk_r (by
      intro j x y hx hy
      match j with
      | 0 => cases hx; cases hy; decide
      | 1 => cases hy
      | j + 2 => cases hx) rfl (by simp) (fun t e => by cases e; decide)
    refine CallK_k call7 hall (allc (gp_encB _) (allc (.lit _) alln)) (.of_pure (.tup (allc (.vec (pure_rows pureR _)) (allc (.lit _) alln)))) ?_
    simp -implicitDefEqProofs only [awl, ne_eq, srcRows, awo, aggEq, eqF, litEq, andO, qwl, qwo, qOp, lop, oneK, stepOp, pairO, pureOp, heapOp, entry, slotsOf, ev, evL, evP, evO, lk, up, St.put, St.drop, constAV, cellAV, cellsAV, plain, binV, nilCmp, intBin, strBin, guardBit, boolOf, fnOf, intOfAV, bound, resOf, retV, moved, rowOf, valAt, Kd.agg, AV.cells, splice, places, fillAV, rowsFill, Hp.none, ↓reduceIte, reduceCtorEq, Nat.reduceLT, Nat.reduceEqDiff, Nat.reduceAdd, Nat.reduceLeDiff, Nat.reducePow, Nat.reduceMul, Yzz, Xzz, Yzy, tyW]
    have e6 : [encR [(1, 0)], encR [(3, 0)]] = [[AV.vec [[.lit (.int .i64 1), .lit (.int .i64 0)]] false], [.vec [[.lit (.int .i64 3), .lit (.int .i64 0)]] false]] := rfl
    have e5 : (topsO wkB).map enc2 = [[.lit (.int .i64 2), .lit (.int .i64 0)]] := rfl
    have c2 : cntO wkB = 2 := by kernel_rfl
    have hh : bareO (hasO wkB [(3, 0), (2, 0)].reverse) = true := by kernel_rfl
    have hb : bareO wkB = false := rfl
    have he : bareO emptyO = true := rfl
    refine aw_wk (σ' := ⟨[(0, .lit (.bool false)), (1, .ptr 0 0), (2, .ptr 1 0), (3, .ptr 2 0), (4, .ptr 3 0), (5, .vec [[.lit (.int .i64 2), .lit (.int .i64 0)]] false), (6, .vec [[AV.vec [[.lit (.int .i64 1), .lit (.int .i64 0)]] false], [.vec [[.lit (.int .i64 3), .lit (.int .i64 0)]] false]] false), (7, .lit (.int .i64 0))], ⟨[(0, [.lit (.int .i64 1), .lit (.int .i64 0)]), (1, [.lit (.int .i64 2), .lit (.int .i64 0)]), (2, [.lit (.int .i64 3), .lit (.int .i64 0)]), (3, [encO wkB])], [], 4⟩, 83⟩) (St.wk_slots (by simp [lk, e5, e6])) ?_
    refine aw_quietN (n := 83) rfl (by decide) mixed ?_
    have k1 : (((1 : Nat) : Int) == 1) = true := rfl
    have k2 : (((2 : Nat) : Int) == 2) = true := rfl
    have k3 : ((2 : Int) == 2) = true := rfl
    have k4 : ((0 : Int) == 0) = true := rfl
    have z1 : ((0 : Int) ≤ 0) = True := by simp
    have z2 : ((0 : Int) < ((1 : Nat) : Int)) = True := by simp
    have z3 : ((0 : Int) < ((2 : Nat) : Int)) = True := by simp
    have z4 : Int.toNat 0 = 0 := rfl
    have z5 : ∀ (x : List AV) (l : List (List AV)), (x :: l).getD 0 [] = x := fun _ _ => rfl
    have k5 : ((1 : Int) == 1) = true := rfl
    simp -implicitDefEqProofs only [awl, ne_eq, srcRows, awo, aggEq, eqF, litEq, andO, qwl, qwo, qOp, lop, oneK, stepOp, pairO, pureOp, heapOp, entry, slotsOf, ev, evL, evP, evO, lk, up, St.put, St.drop, constAV, cellAV, cellsAV, plain, binV, nilCmp, intBin, strBin, guardBit, boolOf, fnOf, intOfAV, bound, resOf, retV, moved, rowOf, valAt, Kd.agg, AV.cells, splice, places, fillAV, rowsFill, Hp.none, ↓reduceIte, reduceCtorEq, Nat.reduceLT, Nat.reduceEqDiff, Nat.reduceAdd, Nat.reduceLeDiff, Nat.reducePow, Nat.reduceMul, Yzz, Xzz, Yzy, tyW, k1, k2, k3, k4, k5, z1, z2, z3, z4, z5, Bool.and_self, Bool.not_true, Bool.not_false, c2, hb, he]
    have hs := Size_spec 2 (by decide) wkB nb
    refine CallQ_k call9 hs (allc (gp_encB _) alln) (.lit _) ?_
    simp -implicitDefEqProofs only [awl, ne_eq, srcRows, awo, aggEq, eqF, litEq, andO, qwl, qwo, qOp, lop, oneK, stepOp, pairO, pureOp, heapOp, entry, slotsOf, ev, evL, evP, evO, lk, up, St.put, St.drop, constAV, cellAV, cellsAV, plain, binV, nilCmp, intBin, strBin, guardBit, boolOf, fnOf, intOfAV, bound, resOf, retV, moved, rowOf, valAt, Kd.agg, AV.cells, splice, places, fillAV, rowsFill, Hp.none, ↓reduceIte, reduceCtorEq, Nat.reduceLT, Nat.reduceEqDiff, Nat.reduceAdd, Nat.reduceLeDiff, Nat.reducePow, Nat.reduceMul, Yzz, Xzz, Yzy, tyW, k1, k2, k3, k4, k5, z1, z2, z3, z4, z5, Bool.and_self, Bool.not_true, Bool.not_false, c2, hb, he]
    have hhas := Has_spec 2 (by decide) wkB wb nb [(3, 0), (2, 0)] (by simp) true
    refine CallQ_k call10 hhas (allc (gp_encB _) (allc (.of_pure (.vec (pure_rows pure_encP [(3, 0), (2, 0)]))) alln)) (.lit _) ?_
    simp -implicitDefEqProofs only [awl, ne_eq, srcRows, awo, aggEq, eqF, litEq, andO, qwl, qwo, qOp, lop, oneK, stepOp, pairO, pureOp, heapOp, entry, slotsOf, ev, evL, evP, evO, lk, up, St.put, St.drop, constAV, cellAV, cellsAV, plain, binV, nilCmp, intBin, strBin, guardBit, boolOf, fnOf, intOfAV, bound, resOf, retV, moved, rowOf, valAt, Kd.agg, AV.cells, splice, places, fillAV, rowsFill, Hp.none, ↓reduceIte, reduceCtorEq, Nat.reduceLT, Nat.reduceEqDiff, Nat.reduceAdd, Nat.reduceLeDiff, Nat.reducePow, Nat.reduceMul, Yzz, Xzz, Yzy, tyW, k1, k2, k3, k4, k5, z1, z2, z3, z4, z5, Bool.and_self, Bool.not_true, Bool.not_false, c2, hb, he, hh]
    refine CallQ_k call12 (Bare_spec wkB) (allc (gp_encB _) alln) (.lit _) ?_
    simp -implicitDefEqProofs only [awl, ne_eq, srcRows, awo, aggEq, eqF, litEq, andO, qwl, qwo, qOp, lop, oneK, stepOp, pairO, pureOp, heapOp, entry, slotsOf, ev, evL, evP, evO, lk, up, St.put, St.drop, constAV, cellAV, cellsAV, plain, binV, nilCmp, intBin, strBin, guardBit, boolOf, fnOf, intOfAV, bound, resOf, retV, moved, rowOf, valAt, Kd.agg, AV.cells, splice, places, fillAV, rowsFill, Hp.none, ↓reduceIte, reduceCtorEq, Nat.reduceLT, Nat.reduceEqDiff, Nat.reduceAdd, Nat.reduceLeDiff, Nat.reducePow, Nat.reduceMul, Yzz, Xzz, Yzy, tyW, k1, k2, k3, k4, k5, z1, z2, z3, z4, z5, Bool.and_self, Bool.not_true, Bool.not_false, c2, hb, he]
    refine CallQ_k call24 Empty_spec alln (gp_encB emptyO) ?_
    simp -implicitDefEqProofs only [awl, ne_eq, srcRows, awo, aggEq, eqF, litEq, andO, qwl, qwo, qOp, lop, oneK, stepOp, pairO, pureOp, heapOp, entry, slotsOf, ev, evL, evP, evO, lk, up, St.put, St.drop, constAV, cellAV, cellsAV, plain, binV, nilCmp, intBin, strBin, guardBit, boolOf, fnOf, intOfAV, bound, resOf, retV, moved, rowOf, valAt, Kd.agg, AV.cells, splice, places, fillAV, rowsFill, Hp.none, ↓reduceIte, reduceCtorEq, Nat.reduceLT, Nat.reduceEqDiff, Nat.reduceAdd, Nat.reduceLeDiff, Nat.reducePow, Nat.reduceMul, Yzz, Xzz, Yzy, tyW, k1, k2, k3, k4, k5, z1, z2, z3, z4, z5, Bool.and_self, Bool.not_true, Bool.not_false, c2, hb, he]
    refine CallQ_k call12 (Bare_spec emptyO) (allc (gp_encB _) alln) (.lit _) ?_
    simp -implicitDefEqProofs only [awl, ne_eq, srcRows, awo, aggEq, eqF, litEq, andO, qwl, qwo, qOp, lop, oneK, stepOp, pairO, pureOp, heapOp, entry, slotsOf, ev, evL, evP, evO, lk, up, St.put, St.drop, constAV, cellAV, cellsAV, plain, binV, nilCmp, intBin, strBin, guardBit, boolOf, fnOf, intOfAV, bound, resOf, retV, moved, rowOf, valAt, Kd.agg, AV.cells, splice, places, fillAV, rowsFill, Hp.none, ↓reduceIte, reduceCtorEq, Nat.reduceLT, Nat.reduceEqDiff, Nat.reduceAdd, Nat.reduceLeDiff, Nat.reducePow, Nat.reduceMul, Yzz, Xzz, Yzy, tyW, k1, k2, k3, k4, k5, z1, z2, z3, z4, z5, Bool.and_self, Bool.not_true, Bool.not_false, c2, hb, he]
    refine CallQ_k call21 None_spec alln (gp_encB none) ?_
    simp -implicitDefEqProofs only [awl, ne_eq, srcRows, awo, aggEq, eqF, litEq, andO, qwl, qwo, qOp, lop, oneK, stepOp, pairO, pureOp, heapOp, entry, slotsOf, ev, evL, evP, evO, lk, up, St.put, St.drop, constAV, cellAV, cellsAV, plain, binV, nilCmp, intBin, strBin, guardBit, boolOf, fnOf, intOfAV, bound, resOf, retV, moved, rowOf, valAt, Kd.agg, AV.cells, splice, places, fillAV, rowsFill, Hp.none, ↓reduceIte, reduceCtorEq, Nat.reduceLT, Nat.reduceEqDiff, Nat.reduceAdd, Nat.reduceLeDiff, Nat.reducePow, Nat.reduceMul, Yzz, Xzz, Yzy, tyW, k1, k2, k3, k4, k5, z1, z2, z3, z4, z5, Bool.and_self, Bool.not_true, Bool.not_false, c2, hb, he]
    refine CallQ_k call9 (Size_spec 2 (by decide) none BndO.none) (allc (gp_encB _) alln) (.lit _) ?_
    have c0 : cntO none = 0 := rfl
    simp -implicitDefEqProofs only [awl, ne_eq, srcRows, awo, aggEq, eqF, litEq, andO, qwl, qwo, qOp, lop, oneK, stepOp, pairO, pureOp, heapOp, entry, slotsOf, ev, evL, evP, evO, lk, up, St.put, St.drop, constAV, cellAV, cellsAV, plain, binV, nilCmp, intBin, strBin, guardBit, boolOf, fnOf, intOfAV, bound, resOf, retV, moved, rowOf, valAt, Kd.agg, AV.cells, splice, places, fillAV, rowsFill, Hp.none, ↓reduceIte, reduceCtorEq, Nat.reduceLT, Nat.reduceEqDiff, Nat.reduceAdd, Nat.reduceLeDiff, Nat.reducePow, Nat.reduceMul, Yzz, Xzz, Yzy, tyW, k1, k2, k3, k4, k5, z1, z2, z3, z4, z5, Bool.and_self, Bool.not_true, Bool.not_false, c2, hb, he, c0]
    exact kexpo (.lit _)
end Go.Proofs.Ytfnmdmadaljjkaa
end

section
namespace Go.Proofs.Ytfnmdmadaljjkaa
open Go.Ab
set_option linter.unusedSimpArgs false
set_option linter.unusedVariables false
set_option maxRecDepth 20000
set_option maxHeartbeats 4000000

theorem made_at (l : List Ac) : (∀ p ∈ madeL 0 made0 l, PrOk 30 p) ∧ 2 ≤ (madeL 0 made0 l).length ∧ (madeL 0 made0 l).length ≤ 32 := madeL_ok l 0 made0 (by decide) rfl made0_ok
theorem brought_at (rows : List Pr) (h2 : 2 ≤ rows.length) (h32 : rows.length ≤ 32) (k : Int) : PCall Try.prog 19 [.lit (.int .i64 k), .lit (.int .i64 rows.length)] (.lit (.int .i64 (k.emod rows.length))) ∧ 0 ≤ k.emod (rows.length : Int) ∧ k.emod (rows.length : Int) < (rows.length : Int) ∧
    ∃ p ∈ rows, (rows.map encPr).getD (k.emod (rows.length : Int)).toNat [] = [encO p.1, .vec (p.2.map encR) false] ∧ (rows.map encPr)[(k.emod (rows.length : Int)).toNat]? = some [encO p.1, .vec (p.2.map encR) false] := by
  have a0 : 0 ≤ k.emod (rows.length : Int) := Int.emod_nonneg _ (by omega)
  have a1 : k.emod (rows.length : Int) < (rows.length : Int) := Int.emod_lt_of_pos _ (by omega)
  obtain ⟨p, hp⟩ : ∃ p, rows[(k.emod (rows.length : Int)).toNat]? = some p := ⟨_, List.getElem?_eq_getElem (by omega)⟩
  exact ⟨brought_spec k (rows.length : Int) (by omega) (by omega), a0, a1, p, List.mem_of_getElem? hp, map_getD encPr hp, by rw [List.getElem?_map, hp]; rfl⟩
theorem Srt.take : ∀ {ws : List Wy} {k : Nat}, Srt ws → Srt (ws.take k)
  | [], k, h => by rw [List.take_nil]; exact h
  | w :: ws, 0, h => by simp [Srt]
  | w :: ws, k + 1, h => ⟨fun x hx => h.1 x (List.mem_of_mem_take hx), Srt.take h.2⟩
theorem WfO_part {o : Option Tr} (h : WfO o) (k : Nat) : WfO (partO (bareO o) ((topsO o).take k)) := by
  intro u e
  cases o with
  | none => simp [partO, bareO, topsO] at e
  | some t =>
    obtain ⟨b, ws⟩ := t
    have hw := h _ rfl
    unfold partO at e
    split at e
    · cases e
    · rename_i hn
      cases e
      refine .mk (Srt.take hw.srt) (fun w hm => hw.kid w (List.mem_of_mem_take hm)) ?_
      by_cases hb : b = true
      · exact .inl hb
      · exact .inr fun e => hn ⟨by simpa [bareO, Tr.bare] using hb, e⟩
theorem BndO_part {n : Nat} {o : Option Tr} (h : BndO n o) (k : Nat) : BndO n (partO (bareO o) ((topsO o).take k)) := by
  intro u e
  cases o with
  | none => simp [partO, bareO, topsO] at e
  | some t =>
    obtain ⟨b, ws⟩ := t
    have hw := h _ rfl
    unfold partO at e
    split at e
    · cases e
    · cases e
      exact .mk (Nat.le_trans (by rw [List.length_take]; exact Nat.min_le_right _ _) hw.len) (fun w hm => hw.kid w (List.mem_of_mem_take hm))
theorem part_full {o : Option Tr} (h : WfO o) : partO (bareO o) (topsO o) = o := by
  cases o with
  | none => rfl
  | some t => exact part_all (h t rfl)
theorem part_step {o : Option Tr} (h : WfO o) {k : Nat} {w : Wy} (hk : (topsO o)[k]? = some w) : belowO w.s w.l o = some w.t ∧ comb (partO (bareO o) ((topsO o).take k)) (pushO w.s w.l (some w.t)) = partO (bareO o) ((topsO o).take (k + 1)) := by
  cases o with
  | none => simp [topsO] at hk
  | some t =>
    obtain ⟨b, ws⟩ := t
    have hw := h _ rfl
    have hm : w ∈ ws := List.mem_of_getElem? hk
    refine ⟨findW_of_mem hw.srt hm, ?_⟩
    have e : pushO w.s w.l (some w.t) = some (.mk false [w]) := by cases w; rfl
    have tk : (topsO (some (.mk b ws))).take (k + 1) = (topsO (some (.mk b ws))).take k ++ [w] := by rw [List.take_add_one, hk]; rfl
    rw [e, tk]
    exact part_next (Srt.take_lt hw.srt hk)
def lwS (a : Option Tr) (b0 : Bool) (i : Nat) (_ : Unit) : St :=
  ⟨[(111, .lit (.int .i64 (i : Int))), (110, .lit (.int .i64 ((topsO a).length : Int))), (109, .vec ((topsO a).map enc2) false), (12, .ptr 1 0), (16, .ptr 5 0)], ⟨[(1, [encO a]), (5, [encO (partO b0 ((topsO a).take i))])], [], 6⟩, 129⟩
theorem laws_spec (l : List Ac) (i j k : Int) (f : Int × Int) : KCall Try.prog 4 [.vec (l.map encAc) false, .lit (.int .i64 i), .lit (.int .i64 j), .lit (.int .i64 k), .agg [.lit (.int .i64 f.1), .lit (.int .i64 f.2)]] (.lit (.bool true)) := by
  refine KCall_of (SCall_intro Try.func4 rfl Try.ntmps4 (rs := [.tmp 10]) rfl (by simp) ?_)
  simp -implicitDefEqProofs only [awl, ne_eq, srcRows, awo, aggEq, eqF, litEq, andO, qwl, qwo, qOp, lop, oneK, stepOp, pairO, pureOp, heapOp, entry, slotsOf, ev, evL, evP, evO, lk, up, St.put, St.drop, constAV, cellAV, cellsAV, plain, binV, nilCmp, intBin, strBin, guardBit, boolOf, fnOf, intOfAV, bound, resOf, retV, moved, rowOf, valAt, Kd.agg, AV.cells, splice, places, fillAV, rowsFill, Hp.none, ↓reduceIte, reduceCtorEq, Nat.reduceLT, Nat.reduceEqDiff, Nat.reduceAdd, Nat.reduceLeDiff, Nat.reducePow, Nat.reduceMul, Yzz, Xzz, Yzy, tyW]
  obtain ⟨ok, n2, n32⟩ := made_at l
  have hmade := made_spec l
  generalize madeL 0 made0 l = rows at ok n2 n32 hmade
  obtain ⟨bi, i0, i1, p, hp, gi, gi'⟩ := brought_at rows n2 n32 i
  obtain ⟨bj, j0, j1, q, hq, gj, gj'⟩ := brought_at rows n2 n32 j
  obtain ⟨bk, k0, k1, r, hr, gk, gk'⟩ := brought_at rows n2 n32 k
  have wa := (ok p hp).wf
  have wb := (ok q hq).wf
  have wc := (ok r hr).wf
  have na : BndO 536870912 p.1 := (ok p hp).bd.mono (by decide)
  have nb : BndO 536870912 q.1 := (ok q hq).bd.mono (by decide)
  have nc : BndO 536870912 r.1 := (ok r hr).bd.mono (by decide)
  refine CallK_k call6 hmade (allc (.of_pure (.vec (pure_rows pure_encAc l))) alln) (.vec (fun x hx c hc => by obtain ⟨y, _, rfl⟩ := List.mem_map.1 hx; exact gp_encPr y c hc)) ?_
  simp -implicitDefEqProofs only [awl, ne_eq, srcRows, awo, aggEq, eqF, litEq, andO, qwl, qwo, qOp, lop, oneK, stepOp, pairO, pureOp, heapOp, entry, slotsOf, ev, evL, evP, evO, lk, up, St.put, St.drop, constAV, cellAV, cellsAV, plain, binV, nilCmp, intBin, strBin, guardBit, boolOf, fnOf, intOfAV, bound, resOf, retV, moved, rowOf, valAt, Kd.agg, AV.cells, splice, places, fillAV, rowsFill, Hp.none, ↓reduceIte, reduceCtorEq, Nat.reduceLT, Nat.reduceEqDiff, Nat.reduceAdd, Nat.reduceLeDiff, Nat.reducePow, Nat.reduceMul, Yzz, Xzz, Yzy, tyW]
  refine aw_letN (n := 129) (σ' := ⟨[(4, .agg [.lit (.int .i64 f.1), .lit (.int .i64 f.2)]), (9, .ptr 0 0), (10, .lit (.bool false)), (12, .ptr 1 0), (13, .ptr 2 0), (14, .ptr 3 0)], ⟨[(0, [.lit (.int .i64 f.1), .lit (.int .i64 f.2)]), (1, [encO p.1]), (2, [encO q.1]), (3, [encO r.1])], [], 4⟩, 129⟩) 4 [⟨24, 27, 12, 28, 1⟩, ⟨25, 28, 13, 28, 1⟩, ⟨26, 29, 14, 28, 1⟩] (allc ⟨_, _, rfl, rfl, rfl, rfl⟩ (allc ⟨_, _, rfl, rfl, rfl, rfl⟩ (allc ⟨_, _, rfl, rfl, rfl, rfl⟩ alln))) (allc rfl (allc rfl (allc rfl alln))) rfl (by decide) (by decide) mixed ?_ ?_
  · have ncast : ∀ n : Nat, (0 : Int) ≤ (n : Int) := Int.natCast_nonneg
    simp -implicitDefEqProofs only [awl, ne_eq, srcRows, awo, aggEq, eqF, litEq, andO, qwl, qwo, qOp, lop, oneK, stepOp, pairO, pureOp, heapOp, entry, slotsOf, ev, evL, evP, evO, lk, up, St.put, St.drop, constAV, cellAV, cellsAV, plain, binV, nilCmp, intBin, strBin, guardBit, boolOf, fnOf, intOfAV, bound, resOf, retV, moved, rowOf, valAt, Kd.agg, AV.cells, splice, places, fillAV, rowsFill, Hp.none, ↓reduceIte, reduceCtorEq, Nat.reduceLT, Nat.reduceEqDiff, Nat.reduceAdd, Nat.reduceLeDiff, Nat.reducePow, Nat.reduceMul, Yzz, Xzz, Yzy, tyW, lop, List.length_map, decide_true, decide_false]
    refine CallQ_pure call19 bi (allc (.lit _) (allc (.lit _) alln)) (.lit _) ?_
    simp -implicitDefEqProofs only [awl, ne_eq, srcRows, awo, aggEq, eqF, litEq, andO, qwl, qwo, qOp, lop, oneK, stepOp, pairO, pureOp, heapOp, entry, slotsOf, ev, evL, evP, evO, lk, up, St.put, St.drop, constAV, cellAV, cellsAV, plain, binV, nilCmp, intBin, strBin, guardBit, boolOf, fnOf, intOfAV, bound, resOf, retV, moved, rowOf, valAt, Kd.agg, AV.cells, splice, places, fillAV, rowsFill, Hp.none, ↓reduceIte, reduceCtorEq, Nat.reduceLT, Nat.reduceEqDiff, Nat.reduceAdd, Nat.reduceLeDiff, Nat.reducePow, Nat.reduceMul, Yzz, Xzz, Yzy, tyW, lop, List.length_map, decide_true, decide_false, i0, i1, gi, gi']
    refine CallQ_pure call19 bj (allc (.lit _) (allc (.lit _) alln)) (.lit _) ?_
    simp -implicitDefEqProofs only [awl, ne_eq, srcRows, awo, aggEq, eqF, litEq, andO, qwl, qwo, qOp, lop, oneK, stepOp, pairO, pureOp, heapOp, entry, slotsOf, ev, evL, evP, evO, lk, up, St.put, St.drop, constAV, cellAV, cellsAV, plain, binV, nilCmp, intBin, strBin, guardBit, boolOf, fnOf, intOfAV, bound, resOf, retV, moved, rowOf, valAt, Kd.agg, AV.cells, splice, places, fillAV, rowsFill, Hp.none, ↓reduceIte, reduceCtorEq, Nat.reduceLT, Nat.reduceEqDiff, Nat.reduceAdd, Nat.reduceLeDiff, Nat.reducePow, Nat.reduceMul, Yzz, Xzz, Yzy, tyW, lop, List.length_map, decide_true, decide_false, j0, j1, gj, gj']
    refine CallQ_pure call19 bk (allc (.lit _) (allc (.lit _) alln)) (.lit _) ?_
    simp -implicitDefEqProofs only [awl, ne_eq, srcRows, awo, aggEq, eqF, litEq, andO, qwl, qwo, qOp, lop, oneK, stepOp, pairO, pureOp, heapOp, entry, slotsOf, ev, evL, evP, evO, lk, up, St.put, St.drop, constAV, cellAV, cellsAV, plain, binV, nilCmp, intBin, strBin, guardBit, boolOf, fnOf, intOfAV, bound, resOf, retV, moved, rowOf, valAt, Kd.agg, AV.cells, splice, places, fillAV, rowsFill, Hp.none, ↓reduceIte, reduceCtorEq, Nat.reduceLT, Nat.reduceEqDiff, Nat.reduceAdd, Nat.reduceLeDiff, Nat.reducePow, Nat.reduceMul, Yzz, Xzz, Yzy, tyW, lop, List.length_map, decide_true, decide_false, k0, k1, gk, gk', afterLN_mk, goL_cons, goL_nil]
    refine St.wk.cp (St.wk_slots1 ?_ ?_ (fun t => rfl))
    · simp [lk]
    · simp [lk]
  simp -implicitDefEqProofs only [awl, ne_eq, srcRows, awo, aggEq, eqF, litEq, andO, qwl, qwo, qOp, lop, oneK, stepOp, pairO, pureOp, heapOp, entry, slotsOf, ev, evL, evP, evO, lk, up, St.put, St.drop, constAV, cellAV, cellsAV, plain, binV, nilCmp, intBin, strBin, guardBit, boolOf, fnOf, intOfAV, bound, resOf, retV, moved, rowOf, valAt, Kd.agg, AV.cells, splice, places, fillAV, rowsFill, Hp.none, ↓reduceIte, reduceCtorEq, Nat.reduceLT, Nat.reduceEqDiff, Nat.reduceAdd, Nat.reduceLeDiff, Nat.reducePow, Nat.reduceMul, Yzz, Xzz, Yzy, tyW]
  generalize p.1 = a at wa na ⊢
  generalize q.1 = b at wb nb ⊢
  generalize r.1 = c at wc nc ⊢
  clear ok hmade bi bj bk i0 i1 j0 j1 k0 k1 gi gi' gj gj' gk gk' hp hq hr n2 n32
  have G := gp_encB
  have two : ∀ {x y : Option Tr}, ∀ v ∈ [encB x, encB y], GP v := fun {x y} => allc (gp_encB x) (allc (gp_encB y) alln)
  have nab : BndO 1073741824 (comb a b) := na.comb nb
  have nbc : BndO 1073741824 (comb b c) := nb.comb nc
  have nabc : BndO 1610612736 (comb (comb a b) c) := nab.comb nc
  have wab := wa.comb wb
  have wbc := wb.comb wc
  have jab := Join_spec 536870912 536870912 (by decide) a b wa wb na nb
  have jba := Join_spec 536870912 536870912 (by decide) b a wb wa nb na
  rw [← comb_comm wa wb] at jba
  have jaa := Join_spec 536870912 536870912 (by decide) a a wa wa na na
  rw [comb_idem wa] at jaa
  have jbc := Join_spec 536870912 536870912 (by decide) b c wb wc nb nc
  have jab_c := Join_spec 1073741824 536870912 (by decide) (comb a b) c wab wc nab nc
  have ja_bc := Join_spec 536870912 1073741824 (by decide) a (comb b c) wa wbc na nbc
  rw [← comb_assoc wa wb wc] at ja_bc
  have jan := Join_spec 536870912 0 (by decide) a none wa .none na .none
  rw [comb_none] at jan
  have sab := Same_spec 1073741824 (by decide) (comb a b) (comb a b) true (by simp) nab nab
  have saa := Same_spec 536870912 (by decide) a a true (by simp) na na
  have sabc := Same_spec 1610612736 (by decide) _ _ true (by simp) nabc nabc
  refine CallK_k call20 jab two (G _) ?_
  simp -implicitDefEqProofs only [awl, ne_eq, srcRows, awo, aggEq, eqF, litEq, andO, qwl, qwo, qOp, lop, oneK, stepOp, pairO, pureOp, heapOp, entry, slotsOf, ev, evL, evP, evO, lk, up, St.put, St.drop, constAV, cellAV, cellsAV, plain, binV, nilCmp, intBin, strBin, guardBit, boolOf, fnOf, intOfAV, bound, resOf, retV, moved, rowOf, valAt, Kd.agg, AV.cells, splice, places, fillAV, rowsFill, Hp.none, ↓reduceIte, reduceCtorEq, Nat.reduceLT, Nat.reduceEqDiff, Nat.reduceAdd, Nat.reduceLeDiff, Nat.reducePow, Nat.reduceMul, Yzz, Xzz, Yzy, tyW, encB]
  refine aw_wk (σ' := ⟨[(4, .agg [.lit (.int .i64 f.1), .lit (.int .i64 f.2)]), (9, .ptr 0 0), (10, .lit (.bool false)), (12, .ptr 1 0), (13, .ptr 2 0), (14, .ptr 3 0), (15, .ptr 4 0)], ⟨[(0, [.lit (.int .i64 f.1), .lit (.int .i64 f.2)]), (1, [encO a]), (2, [encO b]), (3, [encO c]), (4, [encO (comb a b)])], [], 5⟩, 129⟩) (St.wk_slots (by simp [lk])) ?_
  refine aw_quietN (n := 129) rfl (by decide) mixed ?_
  simp -implicitDefEqProofs only [awl, ne_eq, srcRows, awo, aggEq, eqF, litEq, andO, qwl, qwo, qOp, lop, oneK, stepOp, pairO, pureOp, heapOp, entry, slotsOf, ev, evL, evP, evO, lk, up, St.put, St.drop, constAV, cellAV, cellsAV, plain, binV, nilCmp, intBin, strBin, guardBit, boolOf, fnOf, intOfAV, bound, resOf, retV, moved, rowOf, valAt, Kd.agg, AV.cells, splice, places, fillAV, rowsFill, Hp.none, ↓reduceIte, reduceCtorEq, Nat.reduceLT, Nat.reduceEqDiff, Nat.reduceAdd, Nat.reduceLeDiff, Nat.reducePow, Nat.reduceMul, Yzz, Xzz, Yzy, tyW]
  refine CallQ_k call20 jba two (G _) ?_
  simp -implicitDefEqProofs only [awl, ne_eq, srcRows, awo, aggEq, eqF, litEq, andO, qwl, qwo, qOp, lop, oneK, stepOp, pairO, pureOp, heapOp, entry, slotsOf, ev, evL, evP, evO, lk, up, St.put, St.drop, constAV, cellAV, cellsAV, plain, binV, nilCmp, intBin, strBin, guardBit, boolOf, fnOf, intOfAV, bound, resOf, retV, moved, rowOf, valAt, Kd.agg, AV.cells, splice, places, fillAV, rowsFill, Hp.none, ↓reduceIte, reduceCtorEq, Nat.reduceLT, Nat.reduceEqDiff, Nat.reduceAdd, Nat.reduceLeDiff, Nat.reducePow, Nat.reduceMul, Yzz, Xzz, Yzy, tyW, encB]
  refine CallQ_k call16 sab two (.lit _) ?_
  simp -implicitDefEqProofs only [awl, ne_eq, srcRows, awo, aggEq, eqF, litEq, andO, qwl, qwo, qOp, lop, oneK, stepOp, pairO, pureOp, heapOp, entry, slotsOf, ev, evL, evP, evO, lk, up, St.put, St.drop, constAV, cellAV, cellsAV, plain, binV, nilCmp, intBin, strBin, guardBit, boolOf, fnOf, intOfAV, bound, resOf, retV, moved, rowOf, valAt, Kd.agg, AV.cells, splice, places, fillAV, rowsFill, Hp.none, ↓reduceIte, reduceCtorEq, Nat.reduceLT, Nat.reduceEqDiff, Nat.reduceAdd, Nat.reduceLeDiff, Nat.reducePow, Nat.reduceMul, Yzz, Xzz, Yzy, tyW, encB]
  refine CallQ_k call20 jaa two (G _) ?_
  simp -implicitDefEqProofs only [awl, ne_eq, srcRows, awo, aggEq, eqF, litEq, andO, qwl, qwo, qOp, lop, oneK, stepOp, pairO, pureOp, heapOp, entry, slotsOf, ev, evL, evP, evO, lk, up, St.put, St.drop, constAV, cellAV, cellsAV, plain, binV, nilCmp, intBin, strBin, guardBit, boolOf, fnOf, intOfAV, bound, resOf, retV, moved, rowOf, valAt, Kd.agg, AV.cells, splice, places, fillAV, rowsFill, Hp.none, ↓reduceIte, reduceCtorEq, Nat.reduceLT, Nat.reduceEqDiff, Nat.reduceAdd, Nat.reduceLeDiff, Nat.reducePow, Nat.reduceMul, Yzz, Xzz, Yzy, tyW, encB]
  refine CallQ_k call16 saa two (.lit _) ?_
  simp -implicitDefEqProofs only [awl, ne_eq, srcRows, awo, aggEq, eqF, litEq, andO, qwl, qwo, qOp, lop, oneK, stepOp, pairO, pureOp, heapOp, entry, slotsOf, ev, evL, evP, evO, lk, up, St.put, St.drop, constAV, cellAV, cellsAV, plain, binV, nilCmp, intBin, strBin, guardBit, boolOf, fnOf, intOfAV, bound, resOf, retV, moved, rowOf, valAt, Kd.agg, AV.cells, splice, places, fillAV, rowsFill, Hp.none, ↓reduceIte, reduceCtorEq, Nat.reduceLT, Nat.reduceEqDiff, Nat.reduceAdd, Nat.reduceLeDiff, Nat.reducePow, Nat.reduceMul, Yzz, Xzz, Yzy, tyW, encB, Bool.and_self, Bool.or_self]
  refine CallQ_k call20 jab_c two (G _) ?_
  simp -implicitDefEqProofs only [awl, ne_eq, srcRows, awo, aggEq, eqF, litEq, andO, qwl, qwo, qOp, lop, oneK, stepOp, pairO, pureOp, heapOp, entry, slotsOf, ev, evL, evP, evO, lk, up, St.put, St.drop, constAV, cellAV, cellsAV, plain, binV, nilCmp, intBin, strBin, guardBit, boolOf, fnOf, intOfAV, bound, resOf, retV, moved, rowOf, valAt, Kd.agg, AV.cells, splice, places, fillAV, rowsFill, Hp.none, ↓reduceIte, reduceCtorEq, Nat.reduceLT, Nat.reduceEqDiff, Nat.reduceAdd, Nat.reduceLeDiff, Nat.reducePow, Nat.reduceMul, Yzz, Xzz, Yzy, tyW, encB]
  refine CallQ_k call20 jbc two (G _) ?_
  simp -implicitDefEqProofs only [awl, ne_eq, srcRows, awo, aggEq, eqF, litEq, andO, qwl, qwo, qOp, lop, oneK, stepOp, pairO, pureOp, heapOp, entry, slotsOf, ev, evL, evP, evO, lk, up, St.put, St.drop, constAV, cellAV, cellsAV, plain, binV, nilCmp, intBin, strBin, guardBit, boolOf, fnOf, intOfAV, bound, resOf, retV, moved, rowOf, valAt, Kd.agg, AV.cells, splice, places, fillAV, rowsFill, Hp.none, ↓reduceIte, reduceCtorEq, Nat.reduceLT, Nat.reduceEqDiff, Nat.reduceAdd, Nat.reduceLeDiff, Nat.reducePow, Nat.reduceMul, Yzz, Xzz, Yzy, tyW, encB]
  refine CallQ_k call20 ja_bc two (G _) ?_
  simp -implicitDefEqProofs only [awl, ne_eq, srcRows, awo, aggEq, eqF, litEq, andO, qwl, qwo, qOp, lop, oneK, stepOp, pairO, pureOp, heapOp, entry, slotsOf, ev, evL, evP, evO, lk, up, St.put, St.drop, constAV, cellAV, cellsAV, plain, binV, nilCmp, intBin, strBin, guardBit, boolOf, fnOf, intOfAV, bound, resOf, retV, moved, rowOf, valAt, Kd.agg, AV.cells, splice, places, fillAV, rowsFill, Hp.none, ↓reduceIte, reduceCtorEq, Nat.reduceLT, Nat.reduceEqDiff, Nat.reduceAdd, Nat.reduceLeDiff, Nat.reducePow, Nat.reduceMul, Yzz, Xzz, Yzy, tyW, encB]
  refine CallQ_k call16 sabc two (.lit _) ?_
  simp -implicitDefEqProofs only [awl, ne_eq, srcRows, awo, aggEq, eqF, litEq, andO, qwl, qwo, qOp, lop, oneK, stepOp, pairO, pureOp, heapOp, entry, slotsOf, ev, evL, evP, evO, lk, up, St.put, St.drop, constAV, cellAV, cellsAV, plain, binV, nilCmp, intBin, strBin, guardBit, boolOf, fnOf, intOfAV, bound, resOf, retV, moved, rowOf, valAt, Kd.agg, AV.cells, splice, places, fillAV, rowsFill, Hp.none, ↓reduceIte, reduceCtorEq, Nat.reduceLT, Nat.reduceEqDiff, Nat.reduceAdd, Nat.reduceLeDiff, Nat.reducePow, Nat.reduceMul, Yzz, Xzz, Yzy, tyW, encB, Bool.and_self, Bool.or_self]
  refine CallQ_k call21 None_spec alln (G none) ?_
  simp -implicitDefEqProofs only [awl, ne_eq, srcRows, awo, aggEq, eqF, litEq, andO, qwl, qwo, qOp, lop, oneK, stepOp, pairO, pureOp, heapOp, entry, slotsOf, ev, evL, evP, evO, lk, up, St.put, St.drop, constAV, cellAV, cellsAV, plain, binV, nilCmp, intBin, strBin, guardBit, boolOf, fnOf, intOfAV, bound, resOf, retV, moved, rowOf, valAt, Kd.agg, AV.cells, splice, places, fillAV, rowsFill, Hp.none, ↓reduceIte, reduceCtorEq, Nat.reduceLT, Nat.reduceEqDiff, Nat.reduceAdd, Nat.reduceLeDiff, Nat.reducePow, Nat.reduceMul, Yzz, Xzz, Yzy, tyW, encB]
  refine CallQ_k call20 jan two (G _) ?_
  simp -implicitDefEqProofs only [awl, ne_eq, srcRows, awo, aggEq, eqF, litEq, andO, qwl, qwo, qOp, lop, oneK, stepOp, pairO, pureOp, heapOp, entry, slotsOf, ev, evL, evP, evO, lk, up, St.put, St.drop, constAV, cellAV, cellsAV, plain, binV, nilCmp, intBin, strBin, guardBit, boolOf, fnOf, intOfAV, bound, resOf, retV, moved, rowOf, valAt, Kd.agg, AV.cells, splice, places, fillAV, rowsFill, Hp.none, ↓reduceIte, reduceCtorEq, Nat.reduceLT, Nat.reduceEqDiff, Nat.reduceAdd, Nat.reduceLeDiff, Nat.reducePow, Nat.reduceMul, Yzz, Xzz, Yzy, tyW, encB]
  refine CallQ_k call16 saa two (.lit _) ?_
  simp -implicitDefEqProofs only [awl, ne_eq, srcRows, awo, aggEq, eqF, litEq, andO, qwl, qwo, qOp, lop, oneK, stepOp, pairO, pureOp, heapOp, entry, slotsOf, ev, evL, evP, evO, lk, up, St.put, St.drop, constAV, cellAV, cellsAV, plain, binV, nilCmp, intBin, strBin, guardBit, boolOf, fnOf, intOfAV, bound, resOf, retV, moved, rowOf, valAt, Kd.agg, AV.cells, splice, places, fillAV, rowsFill, Hp.none, ↓reduceIte, reduceCtorEq, Nat.reduceLT, Nat.reduceEqDiff, Nat.reduceAdd, Nat.reduceLeDiff, Nat.reducePow, Nat.reduceMul, Yzz, Xzz, Yzy, tyW, encB, Bool.and_self, Bool.or_self]
  refine aw_wk (σ' := ⟨[(4, .agg [.lit (.int .i64 f.1), .lit (.int .i64 f.2)]), (9, .ptr 0 0), (10, .lit (.bool false)), (12, .ptr 1 0), (13, .ptr 2 0), (14, .ptr 3 0), (15, .ptr 4 0)], ⟨[(0, [.lit (.int .i64 f.1), .lit (.int .i64 f.2)]), (1, [encO a]), (2, [encO b]), (3, [encO c]), (4, [encO (comb a b)])], [], 5⟩, 129⟩) (St.wk_slots (by simp [lk])) ?_
  have pab := Push_spec (comb a b) f.1 f.2
  rw [push_comb] at pab
  have pa := Push_spec a f.1 f.2
  have pb := Push_spec b f.1 f.2
  have npa : BndO 536870912 (pushO f.1 f.2 a) := Bnd.push na (by decide)
  have npb : BndO 536870912 (pushO f.1 f.2 b) := Bnd.push nb (by decide)
  have wpa : WfO (pushO f.1 f.2 a) := wa.push
  have wpb : WfO (pushO f.1 f.2 b) := wb.push
  have jp := Join_spec 536870912 536870912 (by decide) _ _ wpa wpb npa npb
  have np : BndO 1073741824 (comb (pushO f.1 f.2 a) (pushO f.1 f.2 b)) := npa.comb npb
  have sp := Same_spec 1073741824 (by decide) _ _ true (by simp) np np
  have bp := Below_spec 536870912 (by decide) _ wpa npa f.1 f.2
  rw [below_push] at bp
  have oneF : ∀ {x : Option Tr}, ∀ v ∈ [encB x, .agg [.lit (.int .i64 f.1), .lit (.int .i64 f.2)]], GP v := fun {x} => allc (G x) (allc (.of_pure (.agg (allc (.lit _) (allc (.lit _) alln)))) alln)
  refine aw_quietN (n := 129) rfl (by decide) mixed ?_
  simp -implicitDefEqProofs only [awl, ne_eq, srcRows, awo, aggEq, eqF, litEq, andO, qwl, qwo, qOp, lop, oneK, stepOp, pairO, pureOp, heapOp, entry, slotsOf, ev, evL, evP, evO, lk, up, St.put, St.drop, constAV, cellAV, cellsAV, plain, binV, nilCmp, intBin, strBin, guardBit, boolOf, fnOf, intOfAV, bound, resOf, retV, moved, rowOf, valAt, Kd.agg, AV.cells, splice, places, fillAV, rowsFill, Hp.none, ↓reduceIte, reduceCtorEq, Nat.reduceLT, Nat.reduceEqDiff, Nat.reduceAdd, Nat.reduceLeDiff, Nat.reducePow, Nat.reduceMul, Yzz, Xzz, Yzy, tyW]
  refine CallQ_k call22 pab oneF (G _) ?_
  simp -implicitDefEqProofs only [awl, ne_eq, srcRows, awo, aggEq, eqF, litEq, andO, qwl, qwo, qOp, lop, oneK, stepOp, pairO, pureOp, heapOp, entry, slotsOf, ev, evL, evP, evO, lk, up, St.put, St.drop, constAV, cellAV, cellsAV, plain, binV, nilCmp, intBin, strBin, guardBit, boolOf, fnOf, intOfAV, bound, resOf, retV, moved, rowOf, valAt, Kd.agg, AV.cells, splice, places, fillAV, rowsFill, Hp.none, ↓reduceIte, reduceCtorEq, Nat.reduceLT, Nat.reduceEqDiff, Nat.reduceAdd, Nat.reduceLeDiff, Nat.reducePow, Nat.reduceMul, Yzz, Xzz, Yzy, tyW, encB]
  refine CallQ_k call22 pa oneF (G _) ?_
  simp -implicitDefEqProofs only [awl, ne_eq, srcRows, awo, aggEq, eqF, litEq, andO, qwl, qwo, qOp, lop, oneK, stepOp, pairO, pureOp, heapOp, entry, slotsOf, ev, evL, evP, evO, lk, up, St.put, St.drop, constAV, cellAV, cellsAV, plain, binV, nilCmp, intBin, strBin, guardBit, boolOf, fnOf, intOfAV, bound, resOf, retV, moved, rowOf, valAt, Kd.agg, AV.cells, splice, places, fillAV, rowsFill, Hp.none, ↓reduceIte, reduceCtorEq, Nat.reduceLT, Nat.reduceEqDiff, Nat.reduceAdd, Nat.reduceLeDiff, Nat.reducePow, Nat.reduceMul, Yzz, Xzz, Yzy, tyW, encB]
  refine CallQ_k call22 pb oneF (G _) ?_
  simp -implicitDefEqProofs only [awl, ne_eq, srcRows, awo, aggEq, eqF, litEq, andO, qwl, qwo, qOp, lop, oneK, stepOp, pairO, pureOp, heapOp, entry, slotsOf, ev, evL, evP, evO, lk, up, St.put, St.drop, constAV, cellAV, cellsAV, plain, binV, nilCmp, intBin, strBin, guardBit, boolOf, fnOf, intOfAV, bound, resOf, retV, moved, rowOf, valAt, Kd.agg, AV.cells, splice, places, fillAV, rowsFill, Hp.none, ↓reduceIte, reduceCtorEq, Nat.reduceLT, Nat.reduceEqDiff, Nat.reduceAdd, Nat.reduceLeDiff, Nat.reducePow, Nat.reduceMul, Yzz, Xzz, Yzy, tyW, encB]
  refine CallQ_k call20 jp two (G _) ?_
  simp -implicitDefEqProofs only [awl, ne_eq, srcRows, awo, aggEq, eqF, litEq, andO, qwl, qwo, qOp, lop, oneK, stepOp, pairO, pureOp, heapOp, entry, slotsOf, ev, evL, evP, evO, lk, up, St.put, St.drop, constAV, cellAV, cellsAV, plain, binV, nilCmp, intBin, strBin, guardBit, boolOf, fnOf, intOfAV, bound, resOf, retV, moved, rowOf, valAt, Kd.agg, AV.cells, splice, places, fillAV, rowsFill, Hp.none, ↓reduceIte, reduceCtorEq, Nat.reduceLT, Nat.reduceEqDiff, Nat.reduceAdd, Nat.reduceLeDiff, Nat.reducePow, Nat.reduceMul, Yzz, Xzz, Yzy, tyW, encB]
  refine CallQ_k call16 sp two (.lit _) ?_
  simp -implicitDefEqProofs only [awl, ne_eq, srcRows, awo, aggEq, eqF, litEq, andO, qwl, qwo, qOp, lop, oneK, stepOp, pairO, pureOp, heapOp, entry, slotsOf, ev, evL, evP, evO, lk, up, St.put, St.drop, constAV, cellAV, cellsAV, plain, binV, nilCmp, intBin, strBin, guardBit, boolOf, fnOf, intOfAV, bound, resOf, retV, moved, rowOf, valAt, Kd.agg, AV.cells, splice, places, fillAV, rowsFill, Hp.none, ↓reduceIte, reduceCtorEq, Nat.reduceLT, Nat.reduceEqDiff, Nat.reduceAdd, Nat.reduceLeDiff, Nat.reducePow, Nat.reduceMul, Yzz, Xzz, Yzy, tyW, encB, Bool.and_self, Bool.or_self]
  refine CallQ_k call22 pa oneF (G _) ?_
  simp -implicitDefEqProofs only [awl, ne_eq, srcRows, awo, aggEq, eqF, litEq, andO, qwl, qwo, qOp, lop, oneK, stepOp, pairO, pureOp, heapOp, entry, slotsOf, ev, evL, evP, evO, lk, up, St.put, St.drop, constAV, cellAV, cellsAV, plain, binV, nilCmp, intBin, strBin, guardBit, boolOf, fnOf, intOfAV, bound, resOf, retV, moved, rowOf, valAt, Kd.agg, AV.cells, splice, places, fillAV, rowsFill, Hp.none, ↓reduceIte, reduceCtorEq, Nat.reduceLT, Nat.reduceEqDiff, Nat.reduceAdd, Nat.reduceLeDiff, Nat.reducePow, Nat.reduceMul, Yzz, Xzz, Yzy, tyW, encB]
  refine CallQ_k call23 bp oneF (G _) ?_
  simp -implicitDefEqProofs only [awl, ne_eq, srcRows, awo, aggEq, eqF, litEq, andO, qwl, qwo, qOp, lop, oneK, stepOp, pairO, pureOp, heapOp, entry, slotsOf, ev, evL, evP, evO, lk, up, St.put, St.drop, constAV, cellAV, cellsAV, plain, binV, nilCmp, intBin, strBin, guardBit, boolOf, fnOf, intOfAV, bound, resOf, retV, moved, rowOf, valAt, Kd.agg, AV.cells, splice, places, fillAV, rowsFill, Hp.none, ↓reduceIte, reduceCtorEq, Nat.reduceLT, Nat.reduceEqDiff, Nat.reduceAdd, Nat.reduceLeDiff, Nat.reducePow, Nat.reduceMul, Yzz, Xzz, Yzy, tyW, encB]
  refine CallQ_k call16 saa two (.lit _) ?_
  simp -implicitDefEqProofs only [awl, ne_eq, srcRows, awo, aggEq, eqF, litEq, andO, qwl, qwo, qOp, lop, oneK, stepOp, pairO, pureOp, heapOp, entry, slotsOf, ev, evL, evP, evO, lk, up, St.put, St.drop, constAV, cellAV, cellsAV, plain, binV, nilCmp, intBin, strBin, guardBit, boolOf, fnOf, intOfAV, bound, resOf, retV, moved, rowOf, valAt, Kd.agg, AV.cells, splice, places, fillAV, rowsFill, Hp.none, ↓reduceIte, reduceCtorEq, Nat.reduceLT, Nat.reduceEqDiff, Nat.reduceAdd, Nat.reduceLeDiff, Nat.reducePow, Nat.reduceMul, Yzz, Xzz, Yzy, tyW, encB, Bool.and_self, Bool.or_self]
  refine CallK_k call21 None_spec alln (G none) ?_
  simp -implicitDefEqProofs only [awl, ne_eq, srcRows, awo, aggEq, eqF, litEq, andO, qwl, qwo, qOp, lop, oneK, stepOp, pairO, pureOp, heapOp, entry, slotsOf, ev, evL, evP, evO, lk, up, St.put, St.drop, constAV, cellAV, cellsAV, plain, binV, nilCmp, intBin, strBin, guardBit, boolOf, fnOf, intOfAV, bound, resOf, retV, moved, rowOf, valAt, Kd.agg, AV.cells, splice, places, fillAV, rowsFill, Hp.none, ↓reduceIte, reduceCtorEq, Nat.reduceLT, Nat.reduceEqDiff, Nat.reduceAdd, Nat.reduceLeDiff, Nat.reducePow, Nat.reduceMul, Yzz, Xzz, Yzy, tyW, encB]
  refine CallK_k call12 (Bare_spec a) (allc (G a) alln) (.lit _) ?_
  simp -implicitDefEqProofs only [awl, ne_eq, srcRows, awo, aggEq, eqF, litEq, andO, qwl, qwo, qOp, lop, oneK, stepOp, pairO, pureOp, heapOp, entry, slotsOf, ev, evL, evP, evO, lk, up, St.put, St.drop, constAV, cellAV, cellsAV, plain, binV, nilCmp, intBin, strBin, guardBit, boolOf, fnOf, intOfAV, bound, resOf, retV, moved, rowOf, valAt, Kd.agg, AV.cells, splice, places, fillAV, rowsFill, Hp.none, ↓reduceIte, reduceCtorEq, Nat.reduceLT, Nat.reduceEqDiff, Nat.reduceAdd, Nat.reduceLeDiff, Nat.reducePow, Nat.reduceMul, Yzz, Xzz, Yzy, tyW]
  have nTops := Tops_spec 536870912 (by decide) a na
  have gTops : GP (.vec ((topsO a).map enc2) false) := .of_pure (.vec (pure_rows pure_enc2 _))
  have hlen : (topsO a).length ≤ 1000000000 := by
    cases a with
    | none => simp [topsO]
    | some t => obtain ⟨b, ws⟩ := t; have := (na _ rfl).len; show ws.length ≤ _; omega
  cases hb : bareO a
  all_goals simp -implicitDefEqProofs only [awl, ne_eq, srcRows, awo, aggEq, eqF, litEq, andO, qwl, qwo, qOp, lop, oneK, stepOp, pairO, pureOp, heapOp, entry, slotsOf, ev, evL, evP, evO, lk, up, St.put, St.drop, constAV, cellAV, cellsAV, plain, binV, nilCmp, intBin, strBin, guardBit, boolOf, fnOf, intOfAV, bound, resOf, retV, moved, rowOf, valAt, Kd.agg, AV.cells, splice, places, fillAV, rowsFill, Hp.none, ↓reduceIte, reduceCtorEq, Nat.reduceLT, Nat.reduceEqDiff, Nat.reduceAdd, Nat.reduceLeDiff, Nat.reducePow, Nat.reduceMul, Yzz, Xzz, Yzy, tyW]
  rotate_left
  · refine CallK_k call24 Empty_spec alln (G emptyO) ?_
    simp -implicitDefEqProofs only [awl, ne_eq, srcRows, awo, aggEq, eqF, litEq, andO, qwl, qwo, qOp, lop, oneK, stepOp, pairO, pureOp, heapOp, entry, slotsOf, ev, evL, evP, evO, lk, up, St.put, St.drop, constAV, cellAV, cellsAV, plain, binV, nilCmp, intBin, strBin, guardBit, boolOf, fnOf, intOfAV, bound, resOf, retV, moved, rowOf, valAt, Kd.agg, AV.cells, splice, places, fillAV, rowsFill, Hp.none, ↓reduceIte, reduceCtorEq, Nat.reduceLT, Nat.reduceEqDiff, Nat.reduceAdd, Nat.reduceLeDiff, Nat.reducePow, Nat.reduceMul, Yzz, Xzz, Yzy, tyW, encB]
    refine CallK_k call14 nTops (allc (G a) alln) gTops ?_
    simp -implicitDefEqProofs only [awl, ne_eq, srcRows, awo, aggEq, eqF, litEq, andO, qwl, qwo, qOp, lop, oneK, stepOp, pairO, pureOp, heapOp, entry, slotsOf, ev, evL, evP, evO, lk, up, St.put, St.drop, constAV, cellAV, cellsAV, plain, binV, nilCmp, intBin, strBin, guardBit, boolOf, fnOf, intOfAV, bound, resOf, retV, moved, rowOf, valAt, Kd.agg, AV.cells, splice, places, fillAV, rowsFill, Hp.none, ↓reduceIte, reduceCtorEq, Nat.reduceLT, Nat.reduceEqDiff, Nat.reduceAdd, Nat.reduceLeDiff, Nat.reducePow, Nat.reduceMul, Yzz, Xzz, Yzy, tyW, List.length_map]
    refine aw_forE (topsO a).length 6 (lwS a (bareO a)) (fun _ _ => True) (Nat.le_refl _) () ?_ trivial (fun k _ hlt _ => ?_) (fun _ _ => ?_)
    · refine St.wk.cp (St.wk_slots1 ?_ ?_ (fun t => rfl))
      · simp [lk]
      · simp [lk, partO, hb]
    · have i1 : (k : Int) < ((topsO a).length : Int) := by omega
      have ncast : ∀ n : Nat, (0 : Int) ≤ (n : Int) := Int.natCast_nonneg
      obtain ⟨w, hw⟩ : ∃ w, (topsO a)[k]? = some w := ⟨_, List.getElem?_eq_getElem hlt⟩
      obtain ⟨st1, st2⟩ := part_step wa hw
      have gw := map_getD enc2 hw
      have ew : enc2 w = [.lit (.int .i64 w.s), .lit (.int .i64 w.l)] := rfl
      rw [ew] at gw
      have wp := WfO_part wa k
      have np := BndO_part na k
      have wq : WfO (some w.t) := by rw [← st1]; exact wa.below
      have nq : BndO 536870912 (some w.t) := by rw [← st1]; exact na.below
      have bw := Below_spec 536870912 (by decide) a wa na w.s w.l
      rw [st1] at bw
      have pw := Push_spec (some w.t) w.s w.l
      have jw := Join_spec 536870912 536870912 (by decide) _ _ wp (wq.push (s := w.s) (l := w.l)) np (Bnd.push (s := w.s) (l := w.l) nq (by decide))
      rw [st2] at jw
      unfold lwS
      generalize partO (bareO a) ((topsO a).take k) = o at jw ⊢
      generalize partO (bareO a) ((topsO a).take (k + 1)) = o2 at jw ⊢
      simp -implicitDefEqProofs only [awl, ne_eq, srcRows, awo, aggEq, eqF, litEq, andO, qwl, qwo, qOp, lop, oneK, stepOp, pairO, pureOp, heapOp, entry, slotsOf, ev, evL, evP, evO, lk, up, St.put, St.drop, constAV, cellAV, cellsAV, plain, binV, nilCmp, intBin, strBin, guardBit, boolOf, fnOf, intOfAV, bound, resOf, retV, moved, rowOf, valAt, Kd.agg, AV.cells, splice, places, fillAV, rowsFill, Hp.none, ↓reduceIte, reduceCtorEq, Nat.reduceLT, Nat.reduceEqDiff, Nat.reduceAdd, Nat.reduceLeDiff, Nat.reducePow, Nat.reduceMul, Yzz, Xzz, Yzy, tyW, i1, decide_true, ncast, Int.toNat_natCast, gw, List.length_map]
      have oneW : ∀ {x : Option Tr}, ∀ v ∈ [encB x, .agg [.lit (.int .i64 w.s), .lit (.int .i64 w.l)]], GP v := fun {x} => allc (G x) (allc (.of_pure (.agg (allc (.lit _) (allc (.lit _) alln)))) alln)
      refine aw_drawC (n := 129) (σ' := ⟨[(111, .lit (.int .i64 (k : Int))), (110, .lit (.int .i64 ((topsO a).length : Int))), (109, .vec ((topsO a).map enc2) false), (12, .ptr 1 0), (16, .ptr 5 0)], ⟨[(1, [encO a]), (5, [encO o2])], [], 7⟩, 129⟩) 7 7 (.alt 7 .leaf .nil) rfl (by decide) (by decide) mixed (by kernel_rfl) (by decide) ?_ ?_
      · simp -implicitDefEqProofs only [awl, ne_eq, srcRows, awo, aggEq, eqF, litEq, andO, qwl, qwo, qOp, lop, oneK, stepOp, pairO, pureOp, heapOp, entry, slotsOf, ev, evL, evP, evO, lk, up, St.put, St.drop, constAV, cellAV, cellsAV, plain, binV, nilCmp, intBin, strBin, guardBit, boolOf, fnOf, intOfAV, bound, resOf, retV, moved, rowOf, valAt, Kd.agg, AV.cells, splice, places, fillAV, rowsFill, Hp.none, ↓reduceIte, reduceCtorEq, Nat.reduceLT, Nat.reduceEqDiff, Nat.reduceAdd, Nat.reduceLeDiff, Nat.reducePow, Nat.reduceMul, Yzz, Xzz, Yzy, tyW]
        refine CallQ_k call23 bw oneW (G _) ?_
        simp -implicitDefEqProofs only [awl, ne_eq, srcRows, awo, aggEq, eqF, litEq, andO, qwl, qwo, qOp, lop, oneK, stepOp, pairO, pureOp, heapOp, entry, slotsOf, ev, evL, evP, evO, lk, up, St.put, St.drop, constAV, cellAV, cellsAV, plain, binV, nilCmp, intBin, strBin, guardBit, boolOf, fnOf, intOfAV, bound, resOf, retV, moved, rowOf, valAt, Kd.agg, AV.cells, splice, places, fillAV, rowsFill, Hp.none, ↓reduceIte, reduceCtorEq, Nat.reduceLT, Nat.reduceEqDiff, Nat.reduceAdd, Nat.reduceLeDiff, Nat.reducePow, Nat.reduceMul, Yzz, Xzz, Yzy, tyW, encB]
        refine CallQ_k call22 pw oneW (G _) ?_
        simp -implicitDefEqProofs only [awl, ne_eq, srcRows, awo, aggEq, eqF, litEq, andO, qwl, qwo, qOp, lop, oneK, stepOp, pairO, pureOp, heapOp, entry, slotsOf, ev, evL, evP, evO, lk, up, St.put, St.drop, constAV, cellAV, cellsAV, plain, binV, nilCmp, intBin, strBin, guardBit, boolOf, fnOf, intOfAV, bound, resOf, retV, moved, rowOf, valAt, Kd.agg, AV.cells, splice, places, fillAV, rowsFill, Hp.none, ↓reduceIte, reduceCtorEq, Nat.reduceLT, Nat.reduceEqDiff, Nat.reduceAdd, Nat.reduceLeDiff, Nat.reducePow, Nat.reduceMul, Yzz, Xzz, Yzy, tyW, encB]
        refine CallQ_k call20 jw two (G _) ?_
        simp -implicitDefEqProofs only [awl, ne_eq, srcRows, awo, aggEq, eqF, litEq, andO, qwl, qwo, qOp, lop, oneK, stepOp, pairO, pureOp, heapOp, entry, slotsOf, ev, evL, evP, evO, lk, up, St.put, St.drop, constAV, cellAV, cellsAV, plain, binV, nilCmp, intBin, strBin, guardBit, boolOf, fnOf, intOfAV, bound, resOf, retV, moved, rowOf, valAt, Kd.agg, AV.cells, splice, places, fillAV, rowsFill, Hp.none, ↓reduceIte, reduceCtorEq, Nat.reduceLT, Nat.reduceEqDiff, Nat.reduceAdd, Nat.reduceLeDiff, Nat.reducePow, Nat.reduceMul, Yzz, Xzz, Yzy, tyW, encB]
        refine St.wk.cp (St.wk_slots1 ?_ ?_ (fun t => rfl))
        · simp [lk]
        · simp [lk]
      · simp -implicitDefEqProofs (disch := omega) only [awl, ne_eq, srcRows, awo, aggEq, eqF, litEq, andO, qwl, qwo, qOp, lop, oneK, stepOp, pairO, pureOp, heapOp, entry, slotsOf, ev, evL, evP, evO, lk, up, St.put, St.drop, constAV, cellAV, cellsAV, plain, binV, nilCmp, intBin, strBin, guardBit, boolOf, fnOf, intOfAV, bound, resOf, retV, moved, rowOf, valAt, Kd.agg, AV.cells, splice, places, fillAV, rowsFill, Hp.none, ↓reduceIte, reduceCtorEq, Nat.reduceLT, Nat.reduceEqDiff, Nat.reduceAdd, Nat.reduceLeDiff, Nat.reducePow, Nat.reduceMul, Yzz, Xzz, Yzy, tyW, i64w]
        refine ⟨(), ?_⟩
        exact cp_drop' (by show 6 ≤ 6; decide) (by show 6 ≤ 7; decide) rfl (allc ⟨rfl, .pure (.lit _)⟩ (allc ⟨rfl, .pure (.lit _)⟩ (allc ⟨rfl, gTops.rn⟩ (allc ⟨rfl, .ptr (by show 1 < 6; decide) rfl⟩ (allc ⟨rfl, .ptr (by show 5 < 6; decide) rfl⟩ alln))))) (allc ⟨by show 1 < 6; decide, rfl, .cons (gp_encO a).rn .nil⟩ (allc ⟨by show 5 < 6; decide, rfl, .cons (gp_encO o2).rn .nil⟩ alln)) alln
    · have i1 : ¬ ((topsO a).length : Int) < ((topsO a).length : Int) := by omega
      simp -implicitDefEqProofs only [awl, ne_eq, srcRows, awo, aggEq, eqF, litEq, andO, qwl, qwo, qOp, lop, oneK, stepOp, pairO, pureOp, heapOp, entry, slotsOf, ev, evL, evP, evO, lk, up, St.put, St.drop, constAV, cellAV, cellsAV, plain, binV, nilCmp, intBin, strBin, guardBit, boolOf, fnOf, intOfAV, bound, resOf, retV, moved, rowOf, valAt, Kd.agg, AV.cells, splice, places, fillAV, rowsFill, Hp.none, ↓reduceIte, reduceCtorEq, Nat.reduceLT, Nat.reduceEqDiff, Nat.reduceAdd, Nat.reduceLeDiff, Nat.reducePow, Nat.reduceMul, Yzz, Xzz, Yzy, tyW, lwS, i1, decide_false, List.take_length, part_full wa]
      refine CallK_k call16 saa two (.lit _) ?_
      simp -implicitDefEqProofs only [awl, ne_eq, srcRows, awo, aggEq, eqF, litEq, andO, qwl, qwo, qOp, lop, oneK, stepOp, pairO, pureOp, heapOp, entry, slotsOf, ev, evL, evP, evO, lk, up, St.put, St.drop, constAV, cellAV, cellsAV, plain, binV, nilCmp, intBin, strBin, guardBit, boolOf, fnOf, intOfAV, bound, resOf, retV, moved, rowOf, valAt, Kd.agg, AV.cells, splice, places, fillAV, rowsFill, Hp.none, ↓reduceIte, reduceCtorEq, Nat.reduceLT, Nat.reduceEqDiff, Nat.reduceAdd, Nat.reduceLeDiff, Nat.reducePow, Nat.reduceMul, Yzz, Xzz, Yzy, tyW]
      refine CallK_k call18 wakes_spec alln (.lit _) ?_
      simp -implicitDefEqProofs only [awl, ne_eq, srcRows, awo, aggEq, eqF, litEq, andO, qwl, qwo, qOp, lop, oneK, stepOp, pairO, pureOp, heapOp, entry, slotsOf, ev, evL, evP, evO, lk, up, St.put, St.drop, constAV, cellAV, cellsAV, plain, binV, nilCmp, intBin, strBin, guardBit, boolOf, fnOf, intOfAV, bound, resOf, retV, moved, rowOf, valAt, Kd.agg, AV.cells, splice, places, fillAV, rowsFill, Hp.none, ↓reduceIte, reduceCtorEq, Nat.reduceLT, Nat.reduceEqDiff, Nat.reduceAdd, Nat.reduceLeDiff, Nat.reducePow, Nat.reduceMul, Yzz, Xzz, Yzy, tyW]
      exact kexpo (.lit _)
  · skip
    refine CallK_k call14 nTops (allc (G a) alln) gTops ?_
    simp -implicitDefEqProofs only [awl, ne_eq, srcRows, awo, aggEq, eqF, litEq, andO, qwl, qwo, qOp, lop, oneK, stepOp, pairO, pureOp, heapOp, entry, slotsOf, ev, evL, evP, evO, lk, up, St.put, St.drop, constAV, cellAV, cellsAV, plain, binV, nilCmp, intBin, strBin, guardBit, boolOf, fnOf, intOfAV, bound, resOf, retV, moved, rowOf, valAt, Kd.agg, AV.cells, splice, places, fillAV, rowsFill, Hp.none, ↓reduceIte, reduceCtorEq, Nat.reduceLT, Nat.reduceEqDiff, Nat.reduceAdd, Nat.reduceLeDiff, Nat.reducePow, Nat.reduceMul, Yzz, Xzz, Yzy, tyW, List.length_map]
    refine aw_forE (topsO a).length 6 (lwS a (bareO a)) (fun _ _ => True) (Nat.le_refl _) () ?_ trivial (fun k _ hlt _ => ?_) (fun _ _ => ?_)
    · refine St.wk.cp (St.wk_slots1 ?_ ?_ (fun t => rfl))
      · simp [lk]
      · simp [lk, partO, hb]
    · have i1 : (k : Int) < ((topsO a).length : Int) := by omega
      have ncast : ∀ n : Nat, (0 : Int) ≤ (n : Int) := Int.natCast_nonneg
      obtain ⟨w, hw⟩ : ∃ w, (topsO a)[k]? = some w := ⟨_, List.getElem?_eq_getElem hlt⟩
      obtain ⟨st1, st2⟩ := part_step wa hw
      have gw := map_getD enc2 hw
      have ew : enc2 w = [.lit (.int .i64 w.s), .lit (.int .i64 w.l)] := rfl
      rw [ew] at gw
      have wp := WfO_part wa k
      have np := BndO_part na k
      have wq : WfO (some w.t) := by rw [← st1]; exact wa.below
      have nq : BndO 536870912 (some w.t) := by rw [← st1]; exact na.below
      have bw := Below_spec 536870912 (by decide) a wa na w.s w.l
      rw [st1] at bw
      have pw := Push_spec (some w.t) w.s w.l
      have jw := Join_spec 536870912 536870912 (by decide) _ _ wp (wq.push (s := w.s) (l := w.l)) np (Bnd.push (s := w.s) (l := w.l) nq (by decide))
      rw [st2] at jw
      unfold lwS
      generalize partO (bareO a) ((topsO a).take k) = o at jw ⊢
      generalize partO (bareO a) ((topsO a).take (k + 1)) = o2 at jw ⊢
      simp -implicitDefEqProofs only [awl, ne_eq, srcRows, awo, aggEq, eqF, litEq, andO, qwl, qwo, qOp, lop, oneK, stepOp, pairO, pureOp, heapOp, entry, slotsOf, ev, evL, evP, evO, lk, up, St.put, St.drop, constAV, cellAV, cellsAV, plain, binV, nilCmp, intBin, strBin, guardBit, boolOf, fnOf, intOfAV, bound, resOf, retV, moved, rowOf, valAt, Kd.agg, AV.cells, splice, places, fillAV, rowsFill, Hp.none, ↓reduceIte, reduceCtorEq, Nat.reduceLT, Nat.reduceEqDiff, Nat.reduceAdd, Nat.reduceLeDiff, Nat.reducePow, Nat.reduceMul, Yzz, Xzz, Yzy, tyW, i1, decide_true, ncast, Int.toNat_natCast, gw, List.length_map]
      have oneW : ∀ {x : Option Tr}, ∀ v ∈ [encB x, .agg [.lit (.int .i64 w.s), .lit (.int .i64 w.l)]], GP v := fun {x} => allc (G x) (allc (.of_pure (.agg (allc (.lit _) (allc (.lit _) alln)))) alln)
      refine aw_drawC (n := 129) (σ' := ⟨[(111, .lit (.int .i64 (k : Int))), (110, .lit (.int .i64 ((topsO a).length : Int))), (109, .vec ((topsO a).map enc2) false), (12, .ptr 1 0), (16, .ptr 5 0)], ⟨[(1, [encO a]), (5, [encO o2])], [], 7⟩, 129⟩) 7 7 (.alt 7 .leaf .nil) rfl (by decide) (by decide) mixed (by kernel_rfl) (by decide) ?_ ?_
      · simp -implicitDefEqProofs only [awl, ne_eq, srcRows, awo, aggEq, eqF, litEq, andO, qwl, qwo, qOp, lop, oneK, stepOp, pairO, pureOp, heapOp, entry, slotsOf, ev, evL, evP, evO, lk, up, St.put, St.drop, constAV, cellAV, cellsAV, plain, binV, nilCmp, intBin, strBin, guardBit, boolOf, fnOf, intOfAV, bound, resOf, retV, moved, rowOf, valAt, Kd.agg, AV.cells, splice, places, fillAV, rowsFill, Hp.none, ↓reduceIte, reduceCtorEq, Nat.reduceLT, Nat.reduceEqDiff, Nat.reduceAdd, Nat.reduceLeDiff, Nat.reducePow, Nat.reduceMul, Yzz, Xzz, Yzy, tyW]
        refine CallQ_k call23 bw oneW (G _) ?_
        simp -implicitDefEqProofs only [awl, ne_eq, srcRows, awo, aggEq, eqF, litEq, andO, qwl, qwo, qOp, lop, oneK, stepOp, pairO, pureOp, heapOp, entry, slotsOf, ev, evL, evP, evO, lk, up, St.put, St.drop, constAV, cellAV, cellsAV, plain, binV, nilCmp, intBin, strBin, guardBit, boolOf, fnOf, intOfAV, bound, resOf, retV, moved, rowOf, valAt, Kd.agg, AV.cells, splice, places, fillAV, rowsFill, Hp.none, ↓reduceIte, reduceCtorEq, Nat.reduceLT, Nat.reduceEqDiff, Nat.reduceAdd, Nat.reduceLeDiff, Nat.reducePow, Nat.reduceMul, Yzz, Xzz, Yzy, tyW, encB]
        refine CallQ_k call22 pw oneW (G _) ?_
        simp -implicitDefEqProofs only [awl, ne_eq, srcRows, awo, aggEq, eqF, litEq, andO, qwl, qwo, qOp, lop, oneK, stepOp, pairO, pureOp, heapOp, entry, slotsOf, ev, evL, evP, evO, lk, up, St.put, St.drop, constAV, cellAV, cellsAV, plain, binV, nilCmp, intBin, strBin, guardBit, boolOf, fnOf, intOfAV, bound, resOf, retV, moved, rowOf, valAt, Kd.agg, AV.cells, splice, places, fillAV, rowsFill, Hp.none, ↓reduceIte, reduceCtorEq, Nat.reduceLT, Nat.reduceEqDiff, Nat.reduceAdd, Nat.reduceLeDiff, Nat.reducePow, Nat.reduceMul, Yzz, Xzz, Yzy, tyW, encB]
        refine CallQ_k call20 jw two (G _) ?_
        simp -implicitDefEqProofs only [awl, ne_eq, srcRows, awo, aggEq, eqF, litEq, andO, qwl, qwo, qOp, lop, oneK, stepOp, pairO, pureOp, heapOp, entry, slotsOf, ev, evL, evP, evO, lk, up, St.put, St.drop, constAV, cellAV, cellsAV, plain, binV, nilCmp, intBin, strBin, guardBit, boolOf, fnOf, intOfAV, bound, resOf, retV, moved, rowOf, valAt, Kd.agg, AV.cells, splice, places, fillAV, rowsFill, Hp.none, ↓reduceIte, reduceCtorEq, Nat.reduceLT, Nat.reduceEqDiff, Nat.reduceAdd, Nat.reduceLeDiff, Nat.reducePow, Nat.reduceMul, Yzz, Xzz, Yzy, tyW, encB]
        refine St.wk.cp (St.wk_slots1 ?_ ?_ (fun t => rfl))
        · simp [lk]
        · simp [lk]
      · simp -implicitDefEqProofs (disch := omega) only [awl, ne_eq, srcRows, awo, aggEq, eqF, litEq, andO, qwl, qwo, qOp, lop, oneK, stepOp, pairO, pureOp, heapOp, entry, slotsOf, ev, evL, evP, evO, lk, up, St.put, St.drop, constAV, cellAV, cellsAV, plain, binV, nilCmp, intBin, strBin, guardBit, boolOf, fnOf, intOfAV, bound, resOf, retV, moved, rowOf, valAt, Kd.agg, AV.cells, splice, places, fillAV, rowsFill, Hp.none, ↓reduceIte, reduceCtorEq, Nat.reduceLT, Nat.reduceEqDiff, Nat.reduceAdd, Nat.reduceLeDiff, Nat.reducePow, Nat.reduceMul, Yzz, Xzz, Yzy, tyW, i64w]
        refine ⟨(), ?_⟩
        exact cp_drop' (by show 6 ≤ 6; decide) (by show 6 ≤ 7; decide) rfl (allc ⟨rfl, .pure (.lit _)⟩ (allc ⟨rfl, .pure (.lit _)⟩ (allc ⟨rfl, gTops.rn⟩ (allc ⟨rfl, .ptr (by show 1 < 6; decide) rfl⟩ (allc ⟨rfl, .ptr (by show 5 < 6; decide) rfl⟩ alln))))) (allc ⟨by show 1 < 6; decide, rfl, .cons (gp_encO a).rn .nil⟩ (allc ⟨by show 5 < 6; decide, rfl, .cons (gp_encO o2).rn .nil⟩ alln)) alln
    · have i1 : ¬ ((topsO a).length : Int) < ((topsO a).length : Int) := by omega
      simp -implicitDefEqProofs only [awl, ne_eq, srcRows, awo, aggEq, eqF, litEq, andO, qwl, qwo, qOp, lop, oneK, stepOp, pairO, pureOp, heapOp, entry, slotsOf, ev, evL, evP, evO, lk, up, St.put, St.drop, constAV, cellAV, cellsAV, plain, binV, nilCmp, intBin, strBin, guardBit, boolOf, fnOf, intOfAV, bound, resOf, retV, moved, rowOf, valAt, Kd.agg, AV.cells, splice, places, fillAV, rowsFill, Hp.none, ↓reduceIte, reduceCtorEq, Nat.reduceLT, Nat.reduceEqDiff, Nat.reduceAdd, Nat.reduceLeDiff, Nat.reducePow, Nat.reduceMul, Yzz, Xzz, Yzy, tyW, lwS, i1, decide_false, List.take_length, part_full wa]
      refine CallK_k call16 saa two (.lit _) ?_
      simp -implicitDefEqProofs only [awl, ne_eq, srcRows, awo, aggEq, eqF, litEq, andO, qwl, qwo, qOp, lop, oneK, stepOp, pairO, pureOp, heapOp, entry, slotsOf, ev, evL, evP, evO, lk, up, St.put, St.drop, constAV, cellAV, cellsAV, plain, binV, nilCmp, intBin, strBin, guardBit, boolOf, fnOf, intOfAV, bound, resOf, retV, moved, rowOf, valAt, Kd.agg, AV.cells, splice, places, fillAV, rowsFill, Hp.none, ↓reduceIte, reduceCtorEq, Nat.reduceLT, Nat.reduceEqDiff, Nat.reduceAdd, Nat.reduceLeDiff, Nat.reducePow, Nat.reduceMul, Yzz, Xzz, Yzy, tyW]
      refine CallK_k call18 wakes_spec alln (.lit _) ?_
      simp -implicitDefEqProofs only [awl, ne_eq, srcRows, awo, aggEq, eqF, litEq, andO, qwl, qwo, qOp, lop, oneK, stepOp, pairO, pureOp, heapOp, entry, slotsOf, ev, evL, evP, evO, lk, up, St.put, St.drop, constAV, cellAV, cellsAV, plain, binV, nilCmp, intBin, strBin, guardBit, boolOf, fnOf, intOfAV, bound, resOf, retV, moved, rowOf, valAt, Kd.agg, AV.cells, splice, places, fillAV, rowsFill, Hp.none, ↓reduceIte, reduceCtorEq, Nat.reduceLT, Nat.reduceEqDiff, Nat.reduceAdd, Nat.reduceLeDiff, Nat.reducePow, Nat.reduceMul, Yzz, Xzz, Yzy, tyW]
      exact kexpo (.lit _)
end Go.Proofs.Ytfnmdmadaljjkaa
end
