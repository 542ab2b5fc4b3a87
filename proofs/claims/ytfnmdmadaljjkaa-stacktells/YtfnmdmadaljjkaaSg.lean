/- Contracts: stacks compared by the program; rows that are in order already are left so. Conditions: those that each theorem names. Contracts: rows in order are sorted; all stacks told in order. Conditions: those that each theorem names. Contract: all stacks of a set, one behind the other. Conditions: those that each theorem names. Contract: all stacks, sorted. Conditions: those that each theorem names. -/
import Derived.Test.YtfnmdmadaljjkaaXzz
import Derived.Test.YtfnmdmadaljjkaaSf
section
namespace Go.Proofs.Ytfnmdmadaljjkaa
open Go.Ab
set_option linter.unusedSimpArgs false
set_option linter.unusedVariables false
set_option maxRecDepth 20000
set_option maxHeartbeats 4000000

def cmpG : Sk → Sk → Int
  | [], [] => 0
  | [], _ :: _ => -1
  | _ :: _, [] => 1
  | x :: a, y :: b => if cmpP x y ≠ 0 then cmpP x y else cmpG a b
theorem cmpG_drop {a b : Sk} {i : Nat} {x y : Int × Int} (hx : a[i]? = some x) (hy : b[i]? = some y) : cmpG (a.drop i) (b.drop i) = if cmpP x y ≠ 0 then cmpP x y else cmpG (a.drop (i + 1)) (b.drop (i + 1)) := by
  obtain ⟨h1, e1⟩ := List.getElem?_eq_some_iff.1 hx
  obtain ⟨h2, e2⟩ := List.getElem?_eq_some_iff.1 hy
  rw [List.drop_eq_getElem_cons h1, List.drop_eq_getElem_cons h2, e1, e2, cmpG]
theorem cmpG_eq : ∀ {a b : Sk}, a.length = b.length → cmpG a b = cmpL a b
  | [], [], _ => by simp [cmpG, cmpL]
  | [], _ :: _, h => by simp at h
  | _ :: _, [], h => by simp at h
  | x :: a, y :: b, h => by simp only [cmpG, cmpL]; rw [cmpG_eq (a := a) (b := b) (by simpa using h)]
def cpS (a b : Sk) (i : Nat) (_ : Unit) : St := ⟨[(13, .lit (.int .i64 (i : Int))), (12, .lit (.int .i64 (a.length : Int))), (11, .vec (a.map encP) false), (0, .vec (a.map encP) false), (1, .vec (b.map encP) false), (2, .fn (.func 39) [] [])], .none, 39⟩
theorem CompareFunc_spec (a b : Sk) (ha : a.length ≤ 2000000000) (hb : b.length ≤ 2000000000) : PCall Try.prog 38 [encS a, encS b, .fn (.func 39) [] []] (.lit (.int .i64 (cmpG a b))) := by
  refine PCall_intro Try.func38 rfl Try.ntmps38 (rs := [.tmp 6]) rfl (by simp) ?_
  simp -implicitDefEqProofs only [awl, ne_eq, srcRows, awo, aggEq, eqF, litEq, andO, qwl, qwo, Go.Ab.qOp, lop, oneK, stepOp, pairO, pureOp, heapOp, entry, slotsOf, ev, evL, evP, evO, lk, up, St.put, St.drop, constAV, cellAV, cellsAV, plain, binV, nilCmp, intBin, strBin, guardBit, boolOf, fnOf, intOfAV, bound, resOf, retV, moved, rowOf, valAt, Kd.agg, AV.cells, splice, places, fillAV, rowsFill, Hp.none, ↓reduceIte, reduceCtorEq, Nat.reduceLT, Nat.reduceEqDiff, Nat.reduceAdd, Nat.reduceLeDiff, Nat.reducePow, Nat.reduceMul, Yzz, Xzz, Yzy, tyW, encS, List.length_map]
  refine aw_forE a.length 0 (cpS a b) (fun i _ => i ≤ b.length ∧ cmpG a b = cmpG (a.drop i) (b.drop i)) (Nat.le_refl _) () (St.wk.cp (St.wk_slots (by simp [lk]))) ⟨Nat.zero_le _, by simp⟩ (fun i _ hlt hI => ?_) (fun _ hI => ?_)
  · obtain ⟨hib, hI⟩ := hI
    have i1 : (i : Int) < (a.length : Int) := by omega
    have ncast : ∀ n : Nat, (0 : Int) ≤ (n : Int) := Int.natCast_nonneg
    obtain ⟨x, hx⟩ : ∃ x, a[i]? = some x := ⟨_, List.getElem?_eq_getElem hlt⟩
    have gx := map_getD encP hx
    have ex : ∀ p, encP p = [.lit (.int .i64 p.1), .lit (.int .i64 p.2)] := fun _ => rfl
    rw [ex] at gx
    rcases Nat.lt_or_ge i b.length with hb' | hb'
    · have j1 : (i : Int) < (b.length : Int) := by omega
      have j2 : ((i : Int) ≥ (b.length : Int)) = False := by simp; omega
      obtain ⟨y, hy⟩ : ∃ y, b[i]? = some y := ⟨_, List.getElem?_eq_getElem hb'⟩
      have gy := map_getD encP hy
      rw [ex] at gy
      have hc := cmpG_drop hx hy
      simp -implicitDefEqProofs only [awl, ne_eq, srcRows, awo, aggEq, eqF, litEq, andO, qwl, qwo, Go.Ab.qOp, lop, oneK, stepOp, pairO, pureOp, heapOp, entry, slotsOf, ev, evL, evP, evO, lk, up, St.put, St.drop, constAV, cellAV, cellsAV, plain, binV, nilCmp, intBin, strBin, guardBit, boolOf, fnOf, intOfAV, bound, resOf, retV, moved, rowOf, valAt, Kd.agg, AV.cells, splice, places, fillAV, rowsFill, Hp.none, ↓reduceIte, reduceCtorEq, Nat.reduceLT, Nat.reduceEqDiff, Nat.reduceAdd, Nat.reduceLeDiff, Nat.reducePow, Nat.reduceMul, Yzz, Xzz, Yzy, tyW, cpS, i1, j1, j2, decide_true, decide_false, ncast, Int.toNat_natCast, gx, gy, List.length_map]
      refine CallK_pure call39 (spec39 x.1 x.2 y.1 y.2) (allc (.agg (by simp [Pure.lit])) (allc (.agg (by simp [Pure.lit])) alln)) (.lit _) ?_
      have hcp : cmpF x.1 x.2 y.1 y.2 = cmpP x y := rfl
      by_cases h0 : cmpP x y = 0
      · have e0 : (cmpP x y == 0) = true := by simpa using h0
        simp -implicitDefEqProofs (disch := omega) only [awl, ne_eq, srcRows, awo, aggEq, eqF, litEq, andO, qwl, qwo, Go.Ab.qOp, lop, oneK, stepOp, pairO, pureOp, heapOp, entry, slotsOf, ev, evL, evP, evO, lk, up, St.put, St.drop, constAV, cellAV, cellsAV, plain, binV, nilCmp, intBin, strBin, guardBit, boolOf, fnOf, intOfAV, bound, resOf, retV, moved, rowOf, valAt, Kd.agg, AV.cells, splice, places, fillAV, rowsFill, Hp.none, ↓reduceIte, reduceCtorEq, Nat.reduceLT, Nat.reduceEqDiff, Nat.reduceAdd, Nat.reduceLeDiff, Nat.reducePow, Nat.reduceMul, Yzz, Xzz, Yzy, tyW, bne, hcp, e0, Bool.not_true, Bool.not_false, i64w]
        refine ⟨(), ⟨by omega, by rw [hI, hc, if_neg (by simpa using h0)]⟩, ?_⟩
        exact cp_drop' (by show 0 ≤ 0; decide) (by show 0 ≤ 2; decide) rfl (allc ⟨rfl, .pure (.lit _)⟩ (allc ⟨rfl, .pure (.lit _)⟩ (allc ⟨rfl, .pure (pureS a)⟩ (allc ⟨rfl, .pure (pureS a)⟩ (allc ⟨rfl, .pure (pureS b)⟩ (allc ⟨rfl, .pure (.fn alln alln)⟩ alln)))))) alln alln
      · have e0 : (cmpP x y == 0) = false := by simpa using h0
        rw [hI, hc, if_pos h0]
        simp -implicitDefEqProofs only [awl, ne_eq, srcRows, awo, aggEq, eqF, litEq, andO, qwl, qwo, Go.Ab.qOp, lop, oneK, stepOp, pairO, pureOp, heapOp, entry, slotsOf, ev, evL, evP, evO, lk, up, St.put, St.drop, constAV, cellAV, cellsAV, plain, binV, nilCmp, intBin, strBin, guardBit, boolOf, fnOf, intOfAV, bound, resOf, retV, moved, rowOf, valAt, Kd.agg, AV.cells, splice, places, fillAV, rowsFill, Hp.none, ↓reduceIte, reduceCtorEq, Nat.reduceLT, Nat.reduceEqDiff, Nat.reduceAdd, Nat.reduceLeDiff, Nat.reducePow, Nat.reduceMul, Yzz, Xzz, Yzy, tyW, bne, hcp, e0, Bool.not_true, Bool.not_false]
        exact expo_pure (.lit _)
    · have j2 : ((i : Int) ≥ (b.length : Int)) = True := by simp; omega
      have hc : cmpG (a.drop i) (b.drop i) = 1 := by
        rw [List.drop_eq_getElem_cons hlt, List.drop_eq_nil_of_le hb', cmpG]
      rw [hI, hc]
      simp -implicitDefEqProofs only [awl, ne_eq, srcRows, awo, aggEq, eqF, litEq, andO, qwl, qwo, Go.Ab.qOp, lop, oneK, stepOp, pairO, pureOp, heapOp, entry, slotsOf, ev, evL, evP, evO, lk, up, St.put, St.drop, constAV, cellAV, cellsAV, plain, binV, nilCmp, intBin, strBin, guardBit, boolOf, fnOf, intOfAV, bound, resOf, retV, moved, rowOf, valAt, Kd.agg, AV.cells, splice, places, fillAV, rowsFill, Hp.none, ↓reduceIte, reduceCtorEq, Nat.reduceLT, Nat.reduceEqDiff, Nat.reduceAdd, Nat.reduceLeDiff, Nat.reducePow, Nat.reduceMul, Yzz, Xzz, Yzy, tyW, cpS, i1, j2, decide_true, ncast, Int.toNat_natCast, gx, List.length_map]
      exact expo_pure (.lit _)
  · obtain ⟨hib, hI⟩ := hI
    have i1 : ¬ (a.length : Int) < (a.length : Int) := by omega
    rw [hI, List.drop_length]
    rcases Nat.lt_or_ge a.length b.length with hb' | hb'
    · have j1 : (a.length : Int) < (b.length : Int) := by omega
      have hc : cmpG [] (b.drop a.length) = -1 := by rw [List.drop_eq_getElem_cons hb', cmpG]
      rw [hc]
      simp -implicitDefEqProofs only [awl, ne_eq, srcRows, awo, aggEq, eqF, litEq, andO, qwl, qwo, Go.Ab.qOp, lop, oneK, stepOp, pairO, pureOp, heapOp, entry, slotsOf, ev, evL, evP, evO, lk, up, St.put, St.drop, constAV, cellAV, cellsAV, plain, binV, nilCmp, intBin, strBin, guardBit, boolOf, fnOf, intOfAV, bound, resOf, retV, moved, rowOf, valAt, Kd.agg, AV.cells, splice, places, fillAV, rowsFill, Hp.none, ↓reduceIte, reduceCtorEq, Nat.reduceLT, Nat.reduceEqDiff, Nat.reduceAdd, Nat.reduceLeDiff, Nat.reducePow, Nat.reduceMul, Yzz, Xzz, Yzy, tyW, cpS, i1, j1, decide_true, decide_false, List.length_map]
      exact expo_pure (.lit _)
    · have j1 : ¬ (a.length : Int) < (b.length : Int) := by omega
      have hc : cmpG [] (b.drop a.length) = 0 := by rw [List.drop_eq_nil_of_le hb', cmpG]
      rw [hc]
      simp -implicitDefEqProofs only [awl, ne_eq, srcRows, awo, aggEq, eqF, litEq, andO, qwl, qwo, Go.Ab.qOp, lop, oneK, stepOp, pairO, pureOp, heapOp, entry, slotsOf, ev, evL, evP, evO, lk, up, St.put, St.drop, constAV, cellAV, cellsAV, plain, binV, nilCmp, intBin, strBin, guardBit, boolOf, fnOf, intOfAV, bound, resOf, retV, moved, rowOf, valAt, Kd.agg, AV.cells, splice, places, fillAV, rowsFill, Hp.none, ↓reduceIte, reduceCtorEq, Nat.reduceLT, Nat.reduceEqDiff, Nat.reduceAdd, Nat.reduceLeDiff, Nat.reducePow, Nat.reduceMul, Yzz, Xzz, Yzy, tyW, cpS, i1, j1, decide_false, List.length_map]
      exact expo_pure (.lit _)
theorem cmp_spec (a b : Sk) (ha : a.length ≤ 2000000000) (hb : b.length ≤ 2000000000) : PCall Try.prog 35 [encS a, encS b] (.lit (.int .i64 (lessL a b))) := by
  refine PCall_intro Try.func35 rfl Try.ntmps35 (rs := [.tmp 4]) rfl (by simp) ?_
  simp -implicitDefEqProofs only [awl, ne_eq, srcRows, awo, aggEq, eqF, litEq, andO, qwl, qwo, Go.Ab.qOp, lop, oneK, stepOp, pairO, pureOp, heapOp, entry, slotsOf, ev, evL, evP, evO, lk, up, St.put, St.drop, constAV, cellAV, cellsAV, plain, binV, nilCmp, intBin, strBin, guardBit, boolOf, fnOf, intOfAV, bound, resOf, retV, moved, rowOf, valAt, Kd.agg, AV.cells, splice, places, fillAV, rowsFill, Hp.none, ↓reduceIte, reduceCtorEq, Nat.reduceLT, Nat.reduceEqDiff, Nat.reduceAdd, Nat.reduceLeDiff, Nat.reducePow, Nat.reduceMul, Yzz, Xzz, Yzy, tyW, encS, List.length_map]
  refine CallK_pure call37 (spec37 _ _) (allc (.lit _) (allc (.lit _) alln)) (.lit _) ?_
  simp -implicitDefEqProofs only [awl, ne_eq, srcRows, awo, aggEq, eqF, litEq, andO, qwl, qwo, Go.Ab.qOp, lop, oneK, stepOp, pairO, pureOp, heapOp, entry, slotsOf, ev, evL, evP, evO, lk, up, St.put, St.drop, constAV, cellAV, cellsAV, plain, binV, nilCmp, intBin, strBin, guardBit, boolOf, fnOf, intOfAV, bound, resOf, retV, moved, rowOf, valAt, Kd.agg, AV.cells, splice, places, fillAV, rowsFill, Hp.none, ↓reduceIte, reduceCtorEq, Nat.reduceLT, Nat.reduceEqDiff, Nat.reduceAdd, Nat.reduceLeDiff, Nat.reducePow, Nat.reduceMul, Yzz, Xzz, Yzy, tyW]
  refine CallK_pure call38 (CompareFunc_spec a b ha hb) (allc (pureS a) (allc (pureS b) (allc (.fn alln alln) alln))) (.lit _) ?_
  simp -implicitDefEqProofs only [awl, ne_eq, srcRows, awo, aggEq, eqF, litEq, andO, qwl, qwo, Go.Ab.qOp, lop, oneK, stepOp, pairO, pureOp, heapOp, entry, slotsOf, ev, evL, evP, evO, lk, up, St.put, St.drop, constAV, cellAV, cellsAV, plain, binV, nilCmp, intBin, strBin, guardBit, boolOf, fnOf, intOfAV, bound, resOf, retV, moved, rowOf, valAt, Kd.agg, AV.cells, splice, places, fillAV, rowsFill, Hp.none, ↓reduceIte, reduceCtorEq, Nat.reduceLT, Nat.reduceEqDiff, Nat.reduceAdd, Nat.reduceLeDiff, Nat.reducePow, Nat.reduceMul, Yzz, Xzz, Yzy, tyW]
  refine CallK_pure call36 (or_spec (cmpI (a.length : Int) (b.length : Int)) (cmpG a b)) (allc (.vec (by simp [Pure.lit])) alln) (.lit _) ?_
  simp -implicitDefEqProofs only [awl, ne_eq, srcRows, awo, aggEq, eqF, litEq, andO, qwl, qwo, Go.Ab.qOp, lop, oneK, stepOp, pairO, pureOp, heapOp, entry, slotsOf, ev, evL, evP, evO, lk, up, St.put, St.drop, constAV, cellAV, cellsAV, plain, binV, nilCmp, intBin, strBin, guardBit, boolOf, fnOf, intOfAV, bound, resOf, retV, moved, rowOf, valAt, Kd.agg, AV.cells, splice, places, fillAV, rowsFill, Hp.none, ↓reduceIte, reduceCtorEq, Nat.reduceLT, Nat.reduceEqDiff, Nat.reduceAdd, Nat.reduceLeDiff, Nat.reducePow, Nat.reduceMul, Yzz, Xzz, Yzy, tyW]
  have e : (if cmpI (a.length : Int) (b.length : Int) ≠ 0 then cmpI (a.length : Int) (b.length : Int) else cmpG a b) = lessL a b := by
    unfold lessL
    rcases cmpI_val (a.length : Int) (b.length : Int) with ⟨h1, h2⟩ | ⟨h1, h2⟩ | ⟨h1, h2⟩
    · rw [h1, if_pos (by decide), if_pos (by omega), if_pos (by omega)]
    · have : a.length = b.length := by omega
      rw [h1, if_neg (by simp), if_neg (by simpa using this), cmpG_eq this]
    · rw [h1, if_pos (by decide), if_pos (by omega), if_neg (by omega)]
  have e' := e
  simp only [ne_eq] at e'
  rw [e']
  exact expo_pure (.lit _)
def Ord (rows : List Sk) : Prop := ∀ (j : Nat) (x y : Sk), rows[j]? = some x → rows[j + 1]? = some y → ¬ lessL y x < 0
def rwH (rows : List Sk) : Hp := ⟨[], [(0, ⟨rows.map encR, 0, 1⟩)], 1⟩
def isS (rows : List Sk) (i : Nat) : St := ⟨[(8, .lit (.int .i64 (i : Int))), (0, .own 0 rows.length), (1, .lit (.int .i64 0)), (2, .lit (.int .i64 (rows.length : Int))), (3, .fn (.func 35) [] [])], rwH rows, 53⟩
theorem insert_ord (rows : List Sk) (ho : Ord rows) (hl : rows.length ≤ 1000000000) (hs : ∀ s ∈ rows, s.length ≤ 2000000000) : SCall Try.prog 53 [.own 0 rows.length, .lit (.int .i64 0), .lit (.int .i64 rows.length), .fn (.func 35) [] []] (rwH rows) (fun r h' => r = .tup [] ∧ h' = rwH rows) := by
  refine SCall_introC Try.func53 rfl Try.ntmps53 (rs := []) rfl (by simp) (N := 1) rfl ?_
  have w1 : IntKind.i64.wrap ((0 : Int) + 1) = ((1 : Nat) : Int) := by decide
  have own : Own (rwH rows) := ⟨alln, allc ⟨by show 0 < 1; decide, .pure (pure_rows pureR _)⟩ alln⟩
  simp -implicitDefEqProofs only [awl, ne_eq, srcRows, awo, aggEq, eqF, litEq, andO, qwl, qwo, Go.Ab.qOp, lop, oneK, stepOp, pairO, pureOp, heapOp, entry, slotsOf, ev, evL, evP, evO, lk, up, St.put, St.drop, constAV, cellAV, cellsAV, plain, binV, nilCmp, intBin, strBin, guardBit, boolOf, fnOf, intOfAV, bound, resOf, retV, moved, rowOf, valAt, Kd.agg, AV.cells, splice, places, fillAV, rowsFill, Hp.none, ↓reduceIte, reduceCtorEq, Nat.reduceLT, Nat.reduceEqDiff, Nat.reduceAdd, Nat.reduceLeDiff, Nat.reducePow, Nat.reduceMul, Yzz, Xzz, Yzy, tyW, rwH, w1]
  refine aw_loopC 1 (fun n σ => ∃ i, n = rows.length - i ∧ 1 ≤ i ∧ (i ≤ rows.length ∨ i = 1) ∧ σ = isS rows i) (fun n σ ⟨i, _, _, _, e⟩ => by rw [e]; rfl) (St.wk_slots (by simp [lk])) (rows.length - 1) ⟨1, rfl, Nat.le_refl _, .inr rfl, rfl⟩ ?_
  rintro n σ ⟨i, rfl, h1, h2, rfl⟩
  rcases Nat.lt_or_ge i rows.length with hlt | hge
  · have i1 : (i : Int) < (rows.length : Int) := by omega
    have i0 : ((i : Int) > 0) = True := by simp; omega
    obtain ⟨x, hx⟩ : ∃ x, rows[i - 1]? = some x := ⟨_, List.getElem?_eq_getElem (by omega)⟩
    obtain ⟨y, hy⟩ : ∃ y, rows[i]? = some y := ⟨_, List.getElem?_eq_getElem hlt⟩
    have gx := map_getD encR hx
    have gy := map_getD encR hy
    have gx' : (rows.map encR)[i - 1]? = some [encS x] := by rw [List.getElem?_map, hx]; rfl
    have gy' : (rows.map encR)[i]? = some [encS y] := by rw [List.getElem?_map, hy]; rfl
    have er : ∀ s, encR s = [encS s] := fun _ => rfl
    have ncast : ∀ n : Nat, (0 : Int) ≤ (n : Int) := Int.natCast_nonneg
    have ws1 : IntKind.i64.wrap ((i : Int) - 1) = (i : Int) - 1 := i64w (by omega) (by omega)
    have n1 : (0 : Int) ≤ (i : Int) - 1 := by omega
    have n2 : (i : Int) - 1 < (rows.length : Int) := by omega
    have n3 : ((i : Int) - 1).toNat = i - 1 := by omega
    simp -implicitDefEqProofs only [awl, ne_eq, srcRows, awo, aggEq, eqF, litEq, andO, qwl, qwo, Go.Ab.qOp, lop, oneK, stepOp, pairO, pureOp, heapOp, entry, slotsOf, ev, evL, evP, evO, lk, up, St.put, St.drop, constAV, cellAV, cellsAV, plain, binV, nilCmp, intBin, strBin, guardBit, boolOf, fnOf, intOfAV, bound, resOf, retV, moved, rowOf, valAt, Kd.agg, AV.cells, splice, places, fillAV, rowsFill, Hp.none, ↓reduceIte, reduceCtorEq, Nat.reduceLT, Nat.reduceEqDiff, Nat.reduceAdd, Nat.reduceLeDiff, Nat.reducePow, Nat.reduceMul, Yzz, Xzz, Yzy, tyW, isS, rwH, i1, decide_true]
    refine aw_for 0 1 (fun _ (_ : Unit) => ⟨[(9, .lit (.int .i64 (i : Int))), (8, .lit (.int .i64 (i : Int))), (0, .own 0 rows.length), (1, .lit (.int .i64 0)), (2, .lit (.int .i64 (rows.length : Int))), (3, .fn (.func 35) [] [])], ⟨[], [(0, ⟨rows.map encR, 0, 1⟩)], 1⟩, 53⟩) (fun _ _ => True) (fun _ _ => rfl) () (St.wk_slots (by simp [lk])) trivial (fun i _ hlt _ => absurd hlt (Nat.not_lt_zero _)) (fun _ _ => ?_)
    simp -implicitDefEqProofs only [awl, ne_eq, srcRows, awo, aggEq, eqF, litEq, andO, qwl, qwo, Go.Ab.qOp, lop, oneK, stepOp, pairO, pureOp, heapOp, entry, slotsOf, ev, evL, evP, evO, lk, up, St.put, St.drop, constAV, cellAV, cellsAV, plain, binV, nilCmp, intBin, strBin, guardBit, boolOf, fnOf, intOfAV, bound, resOf, retV, moved, rowOf, valAt, Kd.agg, AV.cells, splice, places, fillAV, rowsFill, Hp.none, ↓reduceIte, reduceCtorEq, Nat.reduceLT, Nat.reduceEqDiff, Nat.reduceAdd, Nat.reduceLeDiff, Nat.reducePow, Nat.reduceMul, Yzz, Xzz, Yzy, tyW]
    refine aw_quietN (n := 53) rfl (by decide) mixed ?_
    simp -implicitDefEqProofs only [awl, ne_eq, srcRows, awo, aggEq, eqF, litEq, andO, qwl, qwo, Go.Ab.qOp, lop, oneK, stepOp, pairO, pureOp, heapOp, entry, slotsOf, ev, evL, evP, evO, lk, up, St.put, St.drop, constAV, cellAV, cellsAV, plain, binV, nilCmp, intBin, strBin, guardBit, boolOf, fnOf, intOfAV, bound, resOf, retV, moved, rowOf, valAt, Kd.agg, AV.cells, splice, places, fillAV, rowsFill, Hp.none, ↓reduceIte, reduceCtorEq, Nat.reduceLT, Nat.reduceEqDiff, Nat.reduceAdd, Nat.reduceLeDiff, Nat.reducePow, Nat.reduceMul, Yzz, Xzz, Yzy, tyW, i0, decide_true, ws1, i1, n1, n2, n3, ncast, Int.toNat_natCast, gx, gy, gx', gy', List.length_map, er]
    refine CallQ_pure call35 (cmp_spec y x (hs y (List.mem_of_getElem? hy)) (hs x (List.mem_of_getElem? hx))) (allc (pureS y) (allc (pureS x) alln)) (.lit _) ?_
    have hno : ¬ lessL y x < 0 := ho (i - 1) x y hx (by rw [show i - 1 + 1 = i by omega]; exact hy)
    simp -implicitDefEqProofs (disch := omega) only [awl, ne_eq, srcRows, awo, aggEq, eqF, litEq, andO, qwl, qwo, Go.Ab.qOp, lop, oneK, stepOp, pairO, pureOp, heapOp, entry, slotsOf, ev, evL, evP, evO, lk, up, St.put, St.drop, constAV, cellAV, cellsAV, plain, binV, nilCmp, intBin, strBin, guardBit, boolOf, fnOf, intOfAV, bound, resOf, retV, moved, rowOf, valAt, Kd.agg, AV.cells, splice, places, fillAV, rowsFill, Hp.none, ↓reduceIte, reduceCtorEq, Nat.reduceLT, Nat.reduceEqDiff, Nat.reduceAdd, Nat.reduceLeDiff, Nat.reducePow, Nat.reduceMul, Yzz, Xzz, Yzy, tyW, hno, decide_false, i64w]
    exact ⟨_, rows.length - (i + 1), St.wk.cp (St.wk_slots (by simp [lk])), by omega, i + 1, rfl, by omega, .inl (by omega), rfl⟩
  · have i1 : ¬ (i : Int) < (rows.length : Int) := by omega
    simp -implicitDefEqProofs only [awl, ne_eq, srcRows, awo, aggEq, eqF, litEq, andO, qwl, qwo, Go.Ab.qOp, lop, oneK, stepOp, pairO, pureOp, heapOp, entry, slotsOf, ev, evL, evP, evO, lk, up, St.put, St.drop, constAV, cellAV, cellsAV, plain, binV, nilCmp, intBin, strBin, guardBit, boolOf, fnOf, intOfAV, bound, resOf, retV, moved, rowOf, valAt, Kd.agg, AV.cells, splice, places, fillAV, rowsFill, Hp.none, ↓reduceIte, reduceCtorEq, Nat.reduceLT, Nat.reduceEqDiff, Nat.reduceAdd, Nat.reduceLeDiff, Nat.reducePow, Nat.reduceMul, Yzz, Xzz, Yzy, tyW, isS, rwH, i1, decide_false]
    exact ⟨_, St.wk.cp (St.wk.refl _), rfl⟩
end Go.Proofs.Ytfnmdmadaljjkaa
end

section
namespace Go.Proofs.Ytfnmdmadaljjkaa
open Go.Ab
set_option linter.unusedSimpArgs false
set_option linter.unusedVariables false
set_option maxRecDepth 20000
set_option maxHeartbeats 4000000

theorem Len64_two : PCall Try.prog 62 [.lit (.int .u64 2)] (.lit (.int .i64 2)) := by
  refine PCall_intro Try.func62 rfl Try.ntmps62 (rs := [.tmp 2]) rfl (by simp) ?_
  have n1 : ((2 : Int) ≥ 4294967296) = False := by decide
  have n2 : ((2 : Int) ≥ 65536) = False := by decide
  have n3 : ((2 : Int) ≥ 256) = False := by decide
  have w1 : IntKind.u8.wrap (2 : Int) = 2 := by decide
  simp -implicitDefEqProofs only [awl, ne_eq, srcRows, awo, aggEq, eqF, litEq, andO, qwl, qwo, Go.Ab.qOp, lop, oneK, stepOp, pairO, pureOp, heapOp, entry, slotsOf, ev, evL, evP, evO, lk, up, St.put, St.drop, constAV, cellAV, cellsAV, plain, binV, nilCmp, intBin, strBin, guardBit, boolOf, fnOf, intOfAV, bound, resOf, retV, moved, rowOf, valAt, Kd.agg, AV.cells, splice, places, fillAV, rowsFill, Hp.none, ↓reduceIte, reduceCtorEq, Nat.reduceLT, Nat.reduceEqDiff, Nat.reduceAdd, Nat.reduceLeDiff, Nat.reducePow, Nat.reduceMul, Yzz, Xzz, Yzy, tyW, n1, n2, n3, decide_false, w1]
  generalize hs : ByteArray.mk _ = s
  have h2 : s[Int.toNat 2]? = some (2 : UInt8) := by rw [← hs]; kernel_rfl
  have z : ((0 : Int) ≤ 2) = True := by decide
  have w2 : IntKind.i64.wrap (((2 : UInt8).toNat : Nat) : Int) = 2 := by decide
  have w3 : IntKind.i64.wrap ((0 : Int) + 2) = 2 := by decide
  simp -implicitDefEqProofs only [awl, ne_eq, srcRows, awo, aggEq, eqF, litEq, andO, qwl, qwo, Go.Ab.qOp, lop, oneK, stepOp, pairO, pureOp, heapOp, entry, slotsOf, ev, evL, evP, evO, lk, up, St.put, St.drop, constAV, cellAV, cellsAV, plain, binV, nilCmp, intBin, strBin, guardBit, boolOf, fnOf, intOfAV, bound, resOf, retV, moved, rowOf, valAt, Kd.agg, AV.cells, splice, places, fillAV, rowsFill, Hp.none, ↓reduceIte, reduceCtorEq, Nat.reduceLT, Nat.reduceEqDiff, Nat.reduceAdd, Nat.reduceLeDiff, Nat.reducePow, Nat.reduceMul, Yzz, Xzz, Yzy, tyW, h2, z, if_true, w2, w3]
  exact expo_pure (.lit _)
theorem Len_two : PCall Try.prog 51 [.lit (.int .u64 2)] (.lit (.int .i64 2)) := by
  refine PCall_intro Try.func51 rfl Try.ntmps51 (rs := [.tmp 2]) rfl (by simp) ?_
  simp -implicitDefEqProofs only [awl, ne_eq, srcRows, awo, aggEq, eqF, litEq, andO, qwl, qwo, Go.Ab.qOp, lop, oneK, stepOp, pairO, pureOp, heapOp, entry, slotsOf, ev, evL, evP, evO, lk, up, St.put, St.drop, constAV, cellAV, cellsAV, plain, binV, nilCmp, intBin, strBin, guardBit, boolOf, fnOf, intOfAV, bound, resOf, retV, moved, rowOf, valAt, Kd.agg, AV.cells, splice, places, fillAV, rowsFill, Hp.none, ↓reduceIte, reduceCtorEq, Nat.reduceLT, Nat.reduceEqDiff, Nat.reduceAdd, Nat.reduceLeDiff, Nat.reducePow, Nat.reduceMul, Yzz, Xzz, Yzy, tyW]
  refine CallK_pure call62 Len64_two (allc (.lit _) alln) (.lit _) ?_
  simp -implicitDefEqProofs only [awl, ne_eq, srcRows, awo, aggEq, eqF, litEq, andO, qwl, qwo, Go.Ab.qOp, lop, oneK, stepOp, pairO, pureOp, heapOp, entry, slotsOf, ev, evL, evP, evO, lk, up, St.put, St.drop, constAV, cellAV, cellsAV, plain, binV, nilCmp, intBin, strBin, guardBit, boolOf, fnOf, intOfAV, bound, resOf, retV, moved, rowOf, valAt, Kd.agg, AV.cells, splice, places, fillAV, rowsFill, Hp.none, ↓reduceIte, reduceCtorEq, Nat.reduceLT, Nat.reduceEqDiff, Nat.reduceAdd, Nat.reduceLeDiff, Nat.reducePow, Nat.reduceMul, Yzz, Xzz, Yzy, tyW]
  exact expo_pure (.lit _)
theorem pdq_ord (rows : List Sk) (k : Int) (ho : Ord rows) (hl : rows.length ≤ 12) (hs : ∀ s ∈ rows, s.length ≤ 2000000000) : SCall Try.prog 50 [.own 0 rows.length, .lit (.int .i64 0), .lit (.int .i64 rows.length), .lit (.int .i64 k), .fn (.func 35) [] []] (rwH rows) (fun r h' => r = .tup [] ∧ h' = rwH rows) := by
  refine SCall_introC Try.func50 rfl Try.ntmps50 (rs := []) rfl (by simp) (N := 1) rfl ?_
  have w1 : IntKind.i64.wrap ((rows.length : Int) - 0) = (rows.length : Int) := by rw [i64w (by omega) (by omega)]; omega
  have l1 : ((rows.length : Int) ≤ 12) = True := by simp; omega
  simp -implicitDefEqProofs only [awl, ne_eq, srcRows, awo, aggEq, eqF, litEq, andO, qwl, qwo, Go.Ab.qOp, lop, oneK, stepOp, pairO, pureOp, heapOp, entry, slotsOf, ev, evL, evP, evO, lk, up, St.put, St.drop, constAV, cellAV, cellsAV, plain, binV, nilCmp, intBin, strBin, guardBit, boolOf, fnOf, intOfAV, bound, resOf, retV, moved, rowOf, valAt, Kd.agg, AV.cells, splice, places, fillAV, rowsFill, Hp.none, ↓reduceIte, reduceCtorEq, Nat.reduceLT, Nat.reduceEqDiff, Nat.reduceAdd, Nat.reduceLeDiff, Nat.reducePow, Nat.reduceMul, Yzz, Xzz, Yzy, tyW, rwH]
  refine aw_for 0 1 (fun _ (_ : Unit) => ⟨[(0, .own 0 rows.length), (1, .lit (.int .i64 0)), (2, .lit (.int .i64 (rows.length : Int))), (4, .fn (.func 35) [] [])], ⟨[], [(0, ⟨rows.map encR, 0, 1⟩)], 1⟩, 148⟩) (fun _ _ => True) (fun _ _ => rfl) () (St.wk_slots (by simp [lk])) trivial (fun i _ hlt _ => absurd hlt (Nat.not_lt_zero _)) (fun _ _ => ?_)
  simp -implicitDefEqProofs only [awl, ne_eq, srcRows, awo, aggEq, eqF, litEq, andO, qwl, qwo, Go.Ab.qOp, lop, oneK, stepOp, pairO, pureOp, heapOp, entry, slotsOf, ev, evL, evP, evO, lk, up, St.put, St.drop, constAV, cellAV, cellsAV, plain, binV, nilCmp, intBin, strBin, guardBit, boolOf, fnOf, intOfAV, bound, resOf, retV, moved, rowOf, valAt, Kd.agg, AV.cells, splice, places, fillAV, rowsFill, Hp.none, ↓reduceIte, reduceCtorEq, Nat.reduceLT, Nat.reduceEqDiff, Nat.reduceAdd, Nat.reduceLeDiff, Nat.reducePow, Nat.reduceMul, Yzz, Xzz, Yzy, tyW, w1, l1, decide_true]
  refine CallK_of call53 (insert_ord rows ho (by omega) hs) ?_
  rintro r h' ⟨rfl, rfl⟩
  simp -implicitDefEqProofs only [awl, ne_eq, srcRows, awo, aggEq, eqF, litEq, andO, qwl, qwo, Go.Ab.qOp, lop, oneK, stepOp, pairO, pureOp, heapOp, entry, slotsOf, ev, evL, evP, evO, lk, up, St.put, St.drop, constAV, cellAV, cellsAV, plain, binV, nilCmp, intBin, strBin, guardBit, boolOf, fnOf, intOfAV, bound, resOf, retV, moved, rowOf, valAt, Kd.agg, AV.cells, splice, places, fillAV, rowsFill, Hp.none, ↓reduceIte, reduceCtorEq, Nat.reduceLT, Nat.reduceEqDiff, Nat.reduceAdd, Nat.reduceLeDiff, Nat.reducePow, Nat.reduceMul, Yzz, Xzz, Yzy, tyW, rwH]
  exact ⟨_, St.wk.cp (St.wk.refl _), rfl⟩
theorem sort_two (rows : List Sk) (ho : Ord rows) (hl : rows.length = 2) (hs : ∀ s ∈ rows, s.length ≤ 2000000000) : SCall Try.prog 34 [.own 0 rows.length, .fn (.func 35) [] []] (rwH rows) (fun r h' => r = .tup [] ∧ h' = rwH rows) := by
  refine SCall_introC Try.func34 rfl Try.ntmps34 (rs := []) rfl (by simp) (N := 1) rfl ?_
  have w1 : IntKind.u64.wrap (rows.length : Int) = 2 := by rw [hl]; decide
  simp -implicitDefEqProofs only [awl, ne_eq, srcRows, awo, aggEq, eqF, litEq, andO, qwl, qwo, Go.Ab.qOp, lop, oneK, stepOp, pairO, pureOp, heapOp, entry, slotsOf, ev, evL, evP, evO, lk, up, St.put, St.drop, constAV, cellAV, cellsAV, plain, binV, nilCmp, intBin, strBin, guardBit, boolOf, fnOf, intOfAV, bound, resOf, retV, moved, rowOf, valAt, Kd.agg, AV.cells, splice, places, fillAV, rowsFill, Hp.none, ↓reduceIte, reduceCtorEq, Nat.reduceLT, Nat.reduceEqDiff, Nat.reduceAdd, Nat.reduceLeDiff, Nat.reducePow, Nat.reduceMul, Yzz, Xzz, Yzy, tyW, rwH, w1]
  refine CallK_pure call51 Len_two (allc (.lit _) alln) (.lit _) ?_
  simp -implicitDefEqProofs only [awl, ne_eq, srcRows, awo, aggEq, eqF, litEq, andO, qwl, qwo, Go.Ab.qOp, lop, oneK, stepOp, pairO, pureOp, heapOp, entry, slotsOf, ev, evL, evP, evO, lk, up, St.put, St.drop, constAV, cellAV, cellsAV, plain, binV, nilCmp, intBin, strBin, guardBit, boolOf, fnOf, intOfAV, bound, resOf, retV, moved, rowOf, valAt, Kd.agg, AV.cells, splice, places, fillAV, rowsFill, Hp.none, ↓reduceIte, reduceCtorEq, Nat.reduceLT, Nat.reduceEqDiff, Nat.reduceAdd, Nat.reduceLeDiff, Nat.reducePow, Nat.reduceMul, Yzz, Xzz, Yzy, tyW]
  refine CallK_of call50 (pdq_ord rows 2 ho (by omega) hs) ?_
  rintro r h' ⟨rfl, rfl⟩
  simp -implicitDefEqProofs only [awl, ne_eq, srcRows, awo, aggEq, eqF, litEq, andO, qwl, qwo, Go.Ab.qOp, lop, oneK, stepOp, pairO, pureOp, heapOp, entry, slotsOf, ev, evL, evP, evO, lk, up, St.put, St.drop, constAV, cellAV, cellsAV, plain, binV, nilCmp, intBin, strBin, guardBit, boolOf, fnOf, intOfAV, bound, resOf, retV, moved, rowOf, valAt, Kd.agg, AV.cells, splice, places, fillAV, rowsFill, Hp.none, ↓reduceIte, reduceCtorEq, Nat.reduceLT, Nat.reduceEqDiff, Nat.reduceAdd, Nat.reduceLeDiff, Nat.reducePow, Nat.reduceMul, Yzz, Xzz, Yzy, tyW, rwH]
  exact ⟨_, St.wk.cp (St.wk.refl _), rfl⟩
end Go.Proofs.Ytfnmdmadaljjkaa
end

section
namespace Go.Proofs.Ytfnmdmadaljjkaa
open Go.Ab
set_option linter.unusedSimpArgs false
set_option linter.unusedVariables false
set_option maxRecDepth 20000
set_option maxHeartbeats 4000000

theorem stkWs_mem : ∀ {l : List Wy} {w : Wy} {top : Sk} {s : Sk}, w ∈ l → s ∈ stkT w.t (top ++ [(w.s, w.l)]) → s ∈ stkWs l top
  | v :: l, w, top, s, hw, hs => by
    rw [stkWs, stkW_t]
    rcases List.mem_cons.1 hw with rfl | hw
    · exact List.mem_append_left _ hs
    · exact List.mem_append_right _ (stkWs_mem hw hs)
theorem down_spec (D n : Nat) (hn : n ≤ 1000000000) (hrev : ∀ l : Sk, l.length ≤ D → RevC l) : ∀ (t : Tr) (top : Sk) (rows : List Sk), Bnd n t → top.length + szT t ≤ 1000000000 →
    rows.length + (stkT t top).length ≤ 1000000000 → (∀ s ∈ stkT t top, s.length ≤ D) → DnC (some t) top rows
  | .mk false ws, top, rows, hb, hd, hr, hs => downC_false ws top rows (by omega) (Nat.le_trans hb.len hn) hr fun w hw rows' h' => by
    have k := szT_kid (b := false) hw
    refine down_spec D n hn hrev w.t (top ++ [(w.s, w.l)]) rows' (hb.kid w hw) ?_ h' (fun s h => hs s ?_)
    · simp only [List.length_append, List.length_cons, List.length_nil]; omega
    · rw [stkT]; exact List.mem_append_right _ (stkWs_mem hw h)
  | .mk true ws, top, rows, hb, hd, hr, hs => downC_true ws top rows (hrev top (by have := hs top.reverse (by rw [stkT]; simp); simpa using this)) (by omega) (Nat.le_trans hb.len hn) hr fun w hw rows' h' => by
    have k := szT_kid (b := true) hw
    refine down_spec D n hn hrev w.t (top ++ [(w.s, w.l)]) rows' (hb.kid w hw) ?_ h' (fun s h => hs s ?_)
    · simp only [List.length_append, List.length_cons, List.length_nil]; omega
    · rw [stkT]; exact List.mem_append_right _ (stkWs_mem hw h)
termination_by t => szT t
decreasing_by all_goals exact szT_kid hw
end Go.Proofs.Ytfnmdmadaljjkaa
end

section
namespace Go.Proofs.Ytfnmdmadaljjkaa
open Go.Ab
set_option linter.unusedSimpArgs false
set_option linter.unusedVariables false
set_option maxRecDepth 20000
set_option maxHeartbeats 4000000

theorem sort_at {rows : List Sk} (hc : SCall Try.prog 34 [.own 0 rows.length, .fn (.func 35) [] []] (rwH rows) (fun r h' => r = .tup [] ∧ h' = rwH rows)) {H : Hp} {t : Nat} (ht : lk H.toks t = some ⟨rows.map encR, 0, 1⟩) (hlt : t < H.nx) :
    SCall Try.prog 34 [.own t rows.length, .fn (.func 35) [] []] H (fun r h' => r = .tup [] ∧ h' = ⟨H.boxes, (t, ⟨rows.map encR, 0, 1⟩) :: H.toks, H.nx⟩) := by
  refine SCall.sub (hs := rwH rows) (rho [t]) (fun a b ha hb e => rho_inj (l := [t]) (by simp) a b ha hb e) (fun a ha => rho_lt (l := [t]) (by simpa using hlt) a ha)
    (.cons (.own (by show 0 < 1; decide) rfl) (.cons (.fn .nil .nil) .nil)) alln (allc ⟨by show 0 < 1; decide, _, ht, rfl, rfl, .pure (pure_rows pureR _)⟩ alln) hc ?_
  rintro r h' ⟨rfl, rfl⟩ hle
  refine ⟨.tup [], ⟨H.boxes, (t, ⟨rows.map encR, 0, 1⟩) :: H.toks, H.nx⟩, 0, Nat.le_refl _, rfl, .tup .nil, fun id cs' e => .inr ⟨e, fun i c e' => by cases e'⟩, fun id k e => ?_, rfl, rfl⟩
  simp only [lk] at e
  split at e
  · rename_i q; cases e; subst q
    exact .inl ⟨0, _, by show 0 < 1; decide, rfl, rfl, rfl, rfl, .pure (pure_rows pureR _)⟩
  · rename_i q
    refine .inr ⟨e, fun i hi => ?_⟩
    have : i = 0 := by have hi : i < 1 := hi; omega
    subst this
    exact q
theorem cv_tup2 {g g' : Gh} {a b a' b' : AV} (h1 : Cv g g' a a') (h2 : Cv g g' b b') : Cv g g' (.tup [a, b]) (.tup [a', b']) := fun v hv => by
  cases hv with
  | tup q1 q2 =>
    refine .tup q1 fun i c x e1 e2 => ?_
    match i, e2 with
    | 0, e2 => cases e2; exact h1 _ (q2 0 c a e1 rfl)
    | 1, e2 => cases e2; exact h2 _ (q2 1 c b e1 rfl)
theorem All_two (n : Nat) (hn : n ≤ 1000000000) (a : Option Tr) (na : BndO n a) (most : Int) (hm : cntO a ≤ min (max most 0) 1000) (rows : List Sk) (hr : stkO a [] = rows) (ho : Ord rows) (hl : rows.length = 2) (h1 : ∀ s ∈ rows, s.length ≤ 1) (hd : ∀ t, a = some t → szT t ≤ 1000000000) :
    KCall Try.prog 7 [encB a, .lit (.int .i64 most)] (.tup [.vec (rows.map encR) false, .lit (.int .i64 0)]) := by
  refine KCall_of (SCall_intro Try.func7 rfl Try.ntmps7 (rs := [.tmp 4, .tmp 5]) rfl (by simp) ?_)
  simp -implicitDefEqProofs only [awl, ne_eq, srcRows, awo, aggEq, eqF, litEq, andO, qwl, qwo, Go.Ab.qOp, lop, oneK, stepOp, pairO, pureOp, heapOp, entry, slotsOf, ev, evL, evP, evO, lk, up, St.put, St.drop, constAV, cellAV, cellsAV, plain, binV, nilCmp, intBin, strBin, guardBit, boolOf, fnOf, intOfAV, bound, resOf, retV, moved, rowOf, valAt, Kd.agg, AV.cells, splice, places, fillAV, rowsFill, Hp.none, ↓reduceIte, reduceCtorEq, Nat.reduceLT, Nat.reduceEqDiff, Nat.reduceAdd, Nat.reduceLeDiff, Nat.reducePow, Nat.reduceMul, Yzz, Xzz, Yzy, tyW, encB]
  refine CallK_k call9 (Size_spec n (by omega) a na) (allc (gp_encB a) alln) (.lit _) ?_
  simp -implicitDefEqProofs only [awl, ne_eq, srcRows, awo, aggEq, eqF, litEq, andO, qwl, qwo, Go.Ab.qOp, lop, oneK, stepOp, pairO, pureOp, heapOp, entry, slotsOf, ev, evL, evP, evO, lk, up, St.put, St.drop, constAV, cellAV, cellsAV, plain, binV, nilCmp, intBin, strBin, guardBit, boolOf, fnOf, intOfAV, bound, resOf, retV, moved, rowOf, valAt, Kd.agg, AV.cells, splice, places, fillAV, rowsFill, Hp.none, ↓reduceIte, reduceCtorEq, Nat.reduceLT, Nat.reduceEqDiff, Nat.reduceAdd, Nat.reduceLeDiff, Nat.reducePow, Nat.reduceMul, Yzz, Xzz, Yzy, tyW]
  have hg : (cntO a > if 1000 < if 0 > most then 0 else most then 1000 else if 0 > most then 0 else most) = False := by
    simp only [eq_iff_iff, iff_false]
    split <;> split <;> omega
  simp -implicitDefEqProofs only [awl, ne_eq, srcRows, awo, aggEq, eqF, litEq, andO, qwl, qwo, Go.Ab.qOp, lop, oneK, stepOp, pairO, pureOp, heapOp, entry, slotsOf, ev, evL, evP, evO, lk, up, St.put, St.drop, constAV, cellAV, cellsAV, plain, binV, nilCmp, intBin, strBin, guardBit, boolOf, fnOf, intOfAV, bound, resOf, retV, moved, rowOf, valAt, Kd.agg, AV.cells, splice, places, fillAV, rowsFill, Hp.none, ↓reduceIte, reduceCtorEq, Nat.reduceLT, Nat.reduceEqDiff, Nat.reduceAdd, Nat.reduceLeDiff, Nat.reducePow, Nat.reduceMul, Yzz, Xzz, Yzy, tyW, hg, decide_false, tyDown]
  have hc : SCall Try.prog 31 [encO a, encS [], .ptr 0 0, .ptr 1 0] (alH []) (fun r h' => r = .tup [] ∧ h' = alH rows) := by
    cases a with
    | none => exact absurd hl (by rw [← hr]; simp [stkO])
    | some t =>
      have := down_spec 1 n hn (fun l hl => reverse_one l hl) t [] [] (na t rfl) (by simpa using hd t rfl) (by show 0 + (stkO (some t) []).length ≤ 1000000000; rw [hr]; omega) (fun s hs => h1 s (hr ▸ hs))
      unfold DnC at this
      rw [List.nil_append, hr] at this
      exact this
  have hne : rows ≠ [] := by intro e; rw [e] at hl; cases hl
  have gD : dnG 1 2 3 3 [] rows = ⟨[(1, [.own 3 rows.length]), (2, [dnF 1 2])], [(3, ⟨rows.map encR, 0, 1⟩)], 4⟩ := by simp [dnG, hne]
  refine CallK.cv (args1 := [encO a, encS [], .ptr 1 0, .ptr 2 0]) (fun g => cvL_cons (cv_refl (.refl g) _) (cvL_cons (cv_full (.refl g) _ _) (cvL_cons (cv_refl (.refl g) _) (cvL_cons (cv_refl (.refl g) _) cvL_nil)))) ?_
  refine CallK_of call31 (down_at (i := 1) (j := 2) (t := 3) (o := a) hc (fun h => absurd rfl h) (by decide) (by show 1 < 3; decide) (by show 2 < 3; decide) rfl rfl (fun h => absurd rfl h)) ?_
  rintro rv h' ⟨rfl, rfl⟩
  simp -implicitDefEqProofs only [awl, ne_eq, srcRows, awo, aggEq, eqF, litEq, andO, qwl, qwo, Go.Ab.qOp, lop, oneK, stepOp, pairO, pureOp, heapOp, entry, slotsOf, ev, evL, evP, evO, lk, up, St.put, St.drop, constAV, cellAV, cellsAV, plain, binV, nilCmp, intBin, strBin, guardBit, boolOf, fnOf, intOfAV, bound, resOf, retV, moved, rowOf, valAt, Kd.agg, AV.cells, splice, places, fillAV, rowsFill, Hp.none, ↓reduceIte, reduceCtorEq, Nat.reduceLT, Nat.reduceEqDiff, Nat.reduceAdd, Nat.reduceLeDiff, Nat.reducePow, Nat.reduceMul, Yzz, Xzz, Yzy, tyW, gD]
  refine CallK_of call34 (sort_at (t := 3) (sort_two rows ho hl (fun s hs => Nat.le_trans (h1 s hs) (by decide))) rfl (by show 3 < 4; decide)) ?_
  rintro rv h' ⟨rfl, rfl⟩
  simp -implicitDefEqProofs only [awl, ne_eq, srcRows, awo, aggEq, eqF, litEq, andO, qwl, qwo, Go.Ab.qOp, lop, oneK, stepOp, pairO, pureOp, heapOp, entry, slotsOf, ev, evL, evP, evO, lk, up, St.put, St.drop, constAV, cellAV, cellsAV, plain, binV, nilCmp, intBin, strBin, guardBit, boolOf, fnOf, intOfAV, bound, resOf, retV, moved, rowOf, valAt, Kd.agg, AV.cells, splice, places, fillAV, rowsFill, Hp.none, ↓reduceIte, reduceCtorEq, Nat.reduceLT, Nat.reduceEqDiff, Nat.reduceAdd, Nat.reduceLeDiff, Nat.reducePow, Nat.reduceMul, Yzz, Xzz, Yzy, tyW]
  have hR : ∀ x ∈ rows.map encR, ∀ c ∈ x, GP c := fun x hx c hc => GP.of_pure (pure_rows pureR rows x hx c hc)
  refine KExpo.wk (h' := ⟨[], [], 4⟩) (r' := .tup [.vec (rows.map encR) false, .lit (.int .i64 0)]) (St.wk_freeze (t := 3) (k := ⟨rows.map encR, 0, 1⟩) rfl rfl rfl (fun g g' x c p hp => ?_) (fun g g' x c p hp => by cases hp) (fun g p hp => by cases hp)) (kexpo (.tup (allc (.vec hR) (allc (.lit _) alln))))
  rcases List.mem_singleton.1 hp with rfl
  exact ⟨_, rfl, cv_tup2 (by simpa using c) (cv_refl x _)⟩
end Go.Proofs.Ytfnmdmadaljjkaa
end
