/- Contracts of the document's answer: frames, stacks compared. Conditions: those that each theorem names. Contract of the document's answer: a bundle with a stack more. Conditions: those that each theorem names. Contracts of the document's answer: bundles made, pushed, joined, what stands below. Conditions: those that each theorem names. Contract of the document's answer: what stands below. Conditions: those that each theorem names. -/
import Derived.Test.YtfnmdmadaljjkaaXzz
import Derived.Test.YtfnmdmadaljjkaaSc
section
namespace Go.Proofs.Ytfnmdmadaljjkaa
open Go.Ab
set_option linter.unusedSimpArgs false
set_option linter.unusedVariables false
set_option maxRecDepth 20000
set_option maxHeartbeats 4000000

abbrev Sk := List (Int × Int)
def cmpP (a b : Int × Int) : Int := cmpF a.1 a.2 b.1 b.2
def cmpL : Sk → Sk → Int
  | x :: a, y :: b => if cmpP x y ≠ 0 then cmpP x y else cmpL a b
  | _, _ => 0
def lessL (a b : Sk) : Int := if a.length ≠ b.length then (if a.length < b.length then -1 else 1) else cmpL a b
def encS (s : Sk) : AV := .vec (s.map encP) false
theorem pureS (s : Sk) : Ab.Pure (encS s) := .vec (pure_rows pure_encP s)
theorem Frames_spec (a b : Int × Int) : PCall Try.prog 44 [.agg (encP a), .agg (encP b)] (.lit (.int .i64 (cmpP a b))) := by
  obtain ⟨s, l⟩ := a
  obtain ⟨s', l'⟩ := b
  refine PCall_intro Try.func44 rfl Try.ntmps44 (rs := [.tmp 4]) rfl (by simp) ?_
  simp -implicitDefEqProofs only [awl, ne_eq, srcRows, awo, aggEq, eqF, litEq, andO, qwl, qwo, Go.Ab.qOp, lop, oneK, stepOp, pairO, pureOp, heapOp, entry, slotsOf, ev, evL, evP, evO, lk, up, St.put, St.drop, constAV, cellAV, cellsAV, plain, binV, nilCmp, intBin, strBin, guardBit, boolOf, fnOf, intOfAV, bound, resOf, retV, moved, rowOf, valAt, Kd.agg, AV.cells, splice, places, fillAV, rowsFill, Hp.none, ↓reduceIte, reduceCtorEq, Nat.reduceLT, Nat.reduceEqDiff, Nat.reduceAdd, Nat.reduceLeDiff, Nat.reducePow, Nat.reduceMul, Yzz, Xzz, Yzy, tyW, encP]
  unfold cmpP
  rcases cmpF_val s l s' l' with ⟨h1, h2⟩ | ⟨h1, h2, h3⟩ | ⟨h1, h2⟩
  · simp only [h1]
    rcases h2 with h2 | ⟨h2, h3⟩
    · have e1 : (s == s') = false := by rw [beq_eq_false_iff_ne]; omega
      simp -implicitDefEqProofs only [awl, ne_eq, srcRows, awo, aggEq, eqF, litEq, andO, qwl, qwo, Go.Ab.qOp, lop, oneK, stepOp, pairO, pureOp, heapOp, entry, slotsOf, ev, evL, evP, evO, lk, up, St.put, St.drop, constAV, cellAV, cellsAV, plain, binV, nilCmp, intBin, strBin, guardBit, boolOf, fnOf, intOfAV, bound, resOf, retV, moved, rowOf, valAt, Kd.agg, AV.cells, splice, places, fillAV, rowsFill, Hp.none, ↓reduceIte, reduceCtorEq, Nat.reduceLT, Nat.reduceEqDiff, Nat.reduceAdd, Nat.reduceLeDiff, Nat.reducePow, Nat.reduceMul, Yzz, Xzz, Yzy, tyW, e1, bne, h2, decide_true]
      exact expo_pure (.lit _)
    · have e2 : (l == l') = false := by rw [beq_eq_false_iff_ne]; omega
      subst h2
      simp -implicitDefEqProofs only [awl, ne_eq, srcRows, awo, aggEq, eqF, litEq, andO, qwl, qwo, Go.Ab.qOp, lop, oneK, stepOp, pairO, pureOp, heapOp, entry, slotsOf, ev, evL, evP, evO, lk, up, St.put, St.drop, constAV, cellAV, cellsAV, plain, binV, nilCmp, intBin, strBin, guardBit, boolOf, fnOf, intOfAV, bound, resOf, retV, moved, rowOf, valAt, Kd.agg, AV.cells, splice, places, fillAV, rowsFill, Hp.none, ↓reduceIte, reduceCtorEq, Nat.reduceLT, Nat.reduceEqDiff, Nat.reduceAdd, Nat.reduceLeDiff, Nat.reducePow, Nat.reduceMul, Yzz, Xzz, Yzy, tyW, bne, e2, h3, beq_self_eq_true, decide_true]
      exact expo_pure (.lit _)
  · subst h2; subst h3
    simp only [h1]
    simp -implicitDefEqProofs only [awl, ne_eq, srcRows, awo, aggEq, eqF, litEq, andO, qwl, qwo, Go.Ab.qOp, lop, oneK, stepOp, pairO, pureOp, heapOp, entry, slotsOf, ev, evL, evP, evO, lk, up, St.put, St.drop, constAV, cellAV, cellsAV, plain, binV, nilCmp, intBin, strBin, guardBit, boolOf, fnOf, intOfAV, bound, resOf, retV, moved, rowOf, valAt, Kd.agg, AV.cells, splice, places, fillAV, rowsFill, Hp.none, ↓reduceIte, reduceCtorEq, Nat.reduceLT, Nat.reduceEqDiff, Nat.reduceAdd, Nat.reduceLeDiff, Nat.reducePow, Nat.reduceMul, Yzz, Xzz, Yzy, tyW, bne, beq_self_eq_true]
    exact expo_pure (.lit _)
  · simp only [h1]
    rcases h2 with h2 | ⟨h2, h3⟩
    · have e1 : (s == s') = false := by rw [beq_eq_false_iff_ne]; omega
      have e3 : ¬ s < s' := by omega
      simp -implicitDefEqProofs only [awl, ne_eq, srcRows, awo, aggEq, eqF, litEq, andO, qwl, qwo, Go.Ab.qOp, lop, oneK, stepOp, pairO, pureOp, heapOp, entry, slotsOf, ev, evL, evP, evO, lk, up, St.put, St.drop, constAV, cellAV, cellsAV, plain, binV, nilCmp, intBin, strBin, guardBit, boolOf, fnOf, intOfAV, bound, resOf, retV, moved, rowOf, valAt, Kd.agg, AV.cells, splice, places, fillAV, rowsFill, Hp.none, ↓reduceIte, reduceCtorEq, Nat.reduceLT, Nat.reduceEqDiff, Nat.reduceAdd, Nat.reduceLeDiff, Nat.reducePow, Nat.reduceMul, Yzz, Xzz, Yzy, tyW, e1, bne, e3, decide_false]
      exact expo_pure (.lit _)
    · have e2 : (l == l') = false := by rw [beq_eq_false_iff_ne]; omega
      have e3 : ¬ l < l' := by omega
      subst h2
      simp -implicitDefEqProofs only [awl, ne_eq, srcRows, awo, aggEq, eqF, litEq, andO, qwl, qwo, Go.Ab.qOp, lop, oneK, stepOp, pairO, pureOp, heapOp, entry, slotsOf, ev, evL, evP, evO, lk, up, St.put, St.drop, constAV, cellAV, cellsAV, plain, binV, nilCmp, intBin, strBin, guardBit, boolOf, fnOf, intOfAV, bound, resOf, retV, moved, rowOf, valAt, Kd.agg, AV.cells, splice, places, fillAV, rowsFill, Hp.none, ↓reduceIte, reduceCtorEq, Nat.reduceLT, Nat.reduceEqDiff, Nat.reduceAdd, Nat.reduceLeDiff, Nat.reducePow, Nat.reduceMul, Yzz, Xzz, Yzy, tyW, bne, e2, e3, beq_self_eq_true, decide_false]
      exact expo_pure (.lit _)
theorem cmpL_drop {a b : Sk} (hl : a.length = b.length) {i : Nat} {x y : Int × Int} (hx : a[i]? = some x) (hy : b[i]? = some y) : cmpL (a.drop i) (b.drop i) = if cmpP x y ≠ 0 then cmpP x y else cmpL (a.drop (i + 1)) (b.drop (i + 1)) := by
  obtain ⟨h1, e1⟩ := List.getElem?_eq_some_iff.1 hx
  obtain ⟨h2, e2⟩ := List.getElem?_eq_some_iff.1 hy
  rw [List.drop_eq_getElem_cons h1, List.drop_eq_getElem_cons h2, e1, e2, cmpL]
def leS (a b : Sk) (i : Nat) (_ : Unit) : St := ⟨[(5, .lit (.int .i64 (i : Int))), (0, .vec (a.map encP) false), (1, .vec (b.map encP) false)], .none, 35⟩
theorem less_any (a b : Sk) (ha : a.length ≤ 2000000000) (hb : b.length ≤ 9223372036854775807) : PCall Try.prog 41 [encS a, encS b] (.lit (.int .i64 (lessL a b))) := by
  refine PCall_intro Try.func41 rfl Try.ntmps41 (rs := [.tmp 4]) rfl (by simp) ?_
  simp -implicitDefEqProofs only [awl, ne_eq, srcRows, awo, aggEq, eqF, litEq, andO, qwl, qwo, Go.Ab.qOp, lop, oneK, stepOp, pairO, pureOp, heapOp, entry, slotsOf, ev, evL, evP, evO, lk, up, St.put, St.drop, constAV, cellAV, cellsAV, plain, binV, nilCmp, intBin, strBin, guardBit, boolOf, fnOf, intOfAV, bound, resOf, retV, moved, rowOf, valAt, Kd.agg, AV.cells, splice, places, fillAV, rowsFill, Hp.none, ↓reduceIte, reduceCtorEq, Nat.reduceLT, Nat.reduceEqDiff, Nat.reduceAdd, Nat.reduceLeDiff, Nat.reducePow, Nat.reduceMul, Yzz, Xzz, Yzy, tyW, encS, List.length_map]
  by_cases h : a.length = b.length
  · have e1 : ((a.length : Int) == (b.length : Int)) = true := by rw [beq_iff_eq]; omega
    simp -implicitDefEqProofs only [awl, ne_eq, srcRows, awo, aggEq, eqF, litEq, andO, qwl, qwo, Go.Ab.qOp, lop, oneK, stepOp, pairO, pureOp, heapOp, entry, slotsOf, ev, evL, evP, evO, lk, up, St.put, St.drop, constAV, cellAV, cellsAV, plain, binV, nilCmp, intBin, strBin, guardBit, boolOf, fnOf, intOfAV, bound, resOf, retV, moved, rowOf, valAt, Kd.agg, AV.cells, splice, places, fillAV, rowsFill, Hp.none, ↓reduceIte, reduceCtorEq, Nat.reduceLT, Nat.reduceEqDiff, Nat.reduceAdd, Nat.reduceLeDiff, Nat.reducePow, Nat.reduceMul, Yzz, Xzz, Yzy, tyW, e1, bne, List.length_map]
    have hL : lessL a b = cmpL a b := by unfold lessL; rw [if_neg (by simpa using h)]
    rw [hL]
    refine aw_for a.length 0 (leS a b) (fun i _ => cmpL a b = cmpL (a.drop i) (b.drop i)) (fun i _ => rfl) () (St.wk_slots (by simp [lk])) (by simp) (fun i _ hlt hI => ?_) (fun _ hI => ?_)
    · have i1 : (i : Int) < (a.length : Int) := by omega
      have j1 : (i : Int) < (b.length : Int) := by omega
      have ncast : ∀ n : Nat, (0 : Int) ≤ (n : Int) := Int.natCast_nonneg
      obtain ⟨x, hx⟩ : ∃ x, a[i]? = some x := ⟨_, List.getElem?_eq_getElem hlt⟩
      obtain ⟨y, hy⟩ : ∃ y, b[i]? = some y := ⟨_, List.getElem?_eq_getElem (by omega)⟩
      have gx := map_getD encP hx
      have gy := map_getD encP hy
      have lx : ∀ p, (encP p).length = 2 := fun _ => rfl
      have hc := cmpL_drop h hx hy
      simp -implicitDefEqProofs only [awl, ne_eq, srcRows, awo, aggEq, eqF, litEq, andO, qwl, qwo, Go.Ab.qOp, lop, oneK, stepOp, pairO, pureOp, heapOp, entry, slotsOf, ev, evL, evP, evO, lk, up, St.put, St.drop, constAV, cellAV, cellsAV, plain, binV, nilCmp, intBin, strBin, guardBit, boolOf, fnOf, intOfAV, bound, resOf, retV, moved, rowOf, valAt, Kd.agg, AV.cells, splice, places, fillAV, rowsFill, Hp.none, ↓reduceIte, reduceCtorEq, Nat.reduceLT, Nat.reduceEqDiff, Nat.reduceAdd, Nat.reduceLeDiff, Nat.reducePow, Nat.reduceMul, Yzz, Xzz, Yzy, tyW, leS, i1, j1, decide_true, ncast, Int.toNat_natCast, gx, gy, List.length_map, lx, encP_take]
      refine aw_quietN (n := 35) rfl (by decide) mixed ?_
      simp -implicitDefEqProofs only [awl, ne_eq, srcRows, awo, aggEq, eqF, litEq, andO, qwl, qwo, Go.Ab.qOp, lop, oneK, stepOp, pairO, pureOp, heapOp, entry, slotsOf, ev, evL, evP, evO, lk, up, St.put, St.drop, constAV, cellAV, cellsAV, plain, binV, nilCmp, intBin, strBin, guardBit, boolOf, fnOf, intOfAV, bound, resOf, retV, moved, rowOf, valAt, Kd.agg, AV.cells, splice, places, fillAV, rowsFill, Hp.none, ↓reduceIte, reduceCtorEq, Nat.reduceLT, Nat.reduceEqDiff, Nat.reduceAdd, Nat.reduceLeDiff, Nat.reducePow, Nat.reduceMul, Yzz, Xzz, Yzy, tyW, i1, j1, ncast, Int.toNat_natCast, gx, gy, List.length_map, lx, encP_take]
      refine CallQ_pure call44 (Frames_spec x y) (allc (.agg (pure_encP x)) (allc (.agg (pure_encP y)) alln)) (.lit _) ?_
      simp -implicitDefEqProofs only [awl, ne_eq, srcRows, awo, aggEq, eqF, litEq, andO, qwl, qwo, Go.Ab.qOp, lop, oneK, stepOp, pairO, pureOp, heapOp, entry, slotsOf, ev, evL, evP, evO, lk, up, St.put, St.drop, constAV, cellAV, cellsAV, plain, binV, nilCmp, intBin, strBin, guardBit, boolOf, fnOf, intOfAV, bound, resOf, retV, moved, rowOf, valAt, Kd.agg, AV.cells, splice, places, fillAV, rowsFill, Hp.none, ↓reduceIte, reduceCtorEq, Nat.reduceLT, Nat.reduceEqDiff, Nat.reduceAdd, Nat.reduceLeDiff, Nat.reducePow, Nat.reduceMul, Yzz, Xzz, Yzy, tyW, bne]
      by_cases h0 : cmpP x y = 0
      · have e0 : (cmpP x y == 0) = true := by simpa using h0
        simp -implicitDefEqProofs (disch := omega) only [awl, ne_eq, srcRows, awo, aggEq, eqF, litEq, andO, qwl, qwo, Go.Ab.qOp, lop, oneK, stepOp, pairO, pureOp, heapOp, entry, slotsOf, ev, evL, evP, evO, lk, up, St.put, St.drop, constAV, cellAV, cellsAV, plain, binV, nilCmp, intBin, strBin, guardBit, boolOf, fnOf, intOfAV, bound, resOf, retV, moved, rowOf, valAt, Kd.agg, AV.cells, splice, places, fillAV, rowsFill, Hp.none, ↓reduceIte, reduceCtorEq, Nat.reduceLT, Nat.reduceEqDiff, Nat.reduceAdd, Nat.reduceLeDiff, Nat.reducePow, Nat.reduceMul, Yzz, Xzz, Yzy, tyW, e0, i64w]
        exact ⟨(), by rw [hI, hc, if_neg (by simpa using h0)], St.wk.cp (St.wk_slots (by simp [lk]))⟩
      · have e0 : (cmpP x y == 0) = false := by simpa using h0
        rw [hI, hc, if_pos h0]
        simp -implicitDefEqProofs only [awl, ne_eq, srcRows, awo, aggEq, eqF, litEq, andO, qwl, qwo, Go.Ab.qOp, lop, oneK, stepOp, pairO, pureOp, heapOp, entry, slotsOf, ev, evL, evP, evO, lk, up, St.put, St.drop, constAV, cellAV, cellsAV, plain, binV, nilCmp, intBin, strBin, guardBit, boolOf, fnOf, intOfAV, bound, resOf, retV, moved, rowOf, valAt, Kd.agg, AV.cells, splice, places, fillAV, rowsFill, Hp.none, ↓reduceIte, reduceCtorEq, Nat.reduceLT, Nat.reduceEqDiff, Nat.reduceAdd, Nat.reduceLeDiff, Nat.reducePow, Nat.reduceMul, Yzz, Xzz, Yzy, tyW, e0]
        exact expo_pure (.lit _)
    · have i1 : ¬ (a.length : Int) < (a.length : Int) := by omega
      have : cmpL (a.drop a.length) (b.drop a.length) = 0 := by rw [List.drop_length, cmpL]; simp
      rw [hI, this]
      simp -implicitDefEqProofs only [awl, ne_eq, srcRows, awo, aggEq, eqF, litEq, andO, qwl, qwo, Go.Ab.qOp, lop, oneK, stepOp, pairO, pureOp, heapOp, entry, slotsOf, ev, evL, evP, evO, lk, up, St.put, St.drop, constAV, cellAV, cellsAV, plain, binV, nilCmp, intBin, strBin, guardBit, boolOf, fnOf, intOfAV, bound, resOf, retV, moved, rowOf, valAt, Kd.agg, AV.cells, splice, places, fillAV, rowsFill, Hp.none, ↓reduceIte, reduceCtorEq, Nat.reduceLT, Nat.reduceEqDiff, Nat.reduceAdd, Nat.reduceLeDiff, Nat.reducePow, Nat.reduceMul, Yzz, Xzz, Yzy, tyW, leS, i1, decide_false, List.length_map]
      exact expo_pure (.lit _)
  · have e1 : ((a.length : Int) == (b.length : Int)) = false := by rw [beq_eq_false_iff_ne]; omega
    unfold lessL
    rw [if_pos h]
    by_cases h2 : a.length < b.length
    · have e2 : (a.length : Int) < (b.length : Int) := by omega
      rw [if_pos h2]
      simp -implicitDefEqProofs only [awl, ne_eq, srcRows, awo, aggEq, eqF, litEq, andO, qwl, qwo, Go.Ab.qOp, lop, oneK, stepOp, pairO, pureOp, heapOp, entry, slotsOf, ev, evL, evP, evO, lk, up, St.put, St.drop, constAV, cellAV, cellsAV, plain, binV, nilCmp, intBin, strBin, guardBit, boolOf, fnOf, intOfAV, bound, resOf, retV, moved, rowOf, valAt, Kd.agg, AV.cells, splice, places, fillAV, rowsFill, Hp.none, ↓reduceIte, reduceCtorEq, Nat.reduceLT, Nat.reduceEqDiff, Nat.reduceAdd, Nat.reduceLeDiff, Nat.reducePow, Nat.reduceMul, Yzz, Xzz, Yzy, tyW, e1, e2, bne, List.length_map, decide_true]
      exact expo_pure (.lit _)
    · have e2 : ¬ (a.length : Int) < (b.length : Int) := by omega
      rw [if_neg h2]
      simp -implicitDefEqProofs only [awl, ne_eq, srcRows, awo, aggEq, eqF, litEq, andO, qwl, qwo, Go.Ab.qOp, lop, oneK, stepOp, pairO, pureOp, heapOp, entry, slotsOf, ev, evL, evP, evO, lk, up, St.put, St.drop, constAV, cellAV, cellsAV, plain, binV, nilCmp, intBin, strBin, guardBit, boolOf, fnOf, intOfAV, bound, resOf, retV, moved, rowOf, valAt, Kd.agg, AV.cells, splice, places, fillAV, rowsFill, Hp.none, ↓reduceIte, reduceCtorEq, Nat.reduceLT, Nat.reduceEqDiff, Nat.reduceAdd, Nat.reduceLeDiff, Nat.reducePow, Nat.reduceMul, Yzz, Xzz, Yzy, tyW, e1, e2, bne, List.length_map, decide_false]
      exact expo_pure (.lit _)
theorem less_spec (a b : Sk) (ha : a.length ≤ 2000000000) (hb : b.length ≤ 2000000000) : PCall Try.prog 41 [encS a, encS b] (.lit (.int .i64 (lessL a b))) := less_any a b ha (by omega)
def withL (s : Sk) : List Sk → List Sk
  | [] => [s]
  | x :: l => if lessL s x < 0 then s :: x :: l else if lessL s x ≤ 0 then x :: l else x :: withL s l
def encR (s : Sk) : List AV := [encS s]
def encBr (L : List Sk) : AV := .agg [.vec (L.map encR) false]
theorem pureR (s : Sk) : ∀ c ∈ encR s, Ab.Pure c := allc (pureS s) alln
theorem pureBr (L : List Sk) : Ab.Pure (encBr L) := .agg (allc (.vec (pure_rows pureR L)) alln)
theorem encR_take (s : Sk) : (encR s).take 1 = encR s := rfl
end Go.Proofs.Ytfnmdmadaljjkaa
end

section
namespace Go.Proofs.Ytfnmdmadaljjkaa
open Go.Ab
set_option linter.unusedSimpArgs false
set_option linter.unusedVariables false
set_option maxRecDepth 20000
set_option maxHeartbeats 4000000

def wiS (s : Sk) (L : List Sk) (i : Nat) (a : Bool × List Sk) : St :=
  ⟨[(7, .lit (.int .i64 (i : Int))), (6, .lit (.bool a.1)), (5, .ptr 2 0), (4, .ptr 1 0), (2, .ptr 0 0), (1, encS s)],
    ⟨[(0, [.vec (L.map encR) false]), (1, [.vec [] true]), (2, [grA 3 (a.2.map encR)])], grT 3 1 (a.2.map encR), grN 3 (a.2.map encR)⟩, 56⟩
structure WiI (s : Sk) (L : List Sk) (i : Nat) (a : Bool × List Sk) : Prop where
  eq : withL s L = a.2 ++ if a.1 then L.drop i else withL s (L.drop i)
  len : a.2.length ≤ i + (if a.1 then 1 else 0)
theorem grN_ge {t : Nat} {rows : List (List AV)} : t ≤ grN t rows := by cases rows <;> simp [grN]
theorem row1 (r : List Sk) : ∀ q ∈ r.map encR, q.length = 1 := fun q hq => by obtain ⟨v, _, rfl⟩ := List.mem_map.1 hq; rfl
theorem withL_len (s : Sk) (L : List Sk) : (withL s L).length ≤ L.length + 1 := by
  induction L with
  | nil => simp [withL]
  | cons x l ih =>
    simp only [withL]
    split
    · simp
    · split
      · simp
      · simp only [List.length_cons]; omega
theorem withL_mem (s : Sk) (L : List Sk) : ∀ x ∈ withL s L, x = s ∨ x ∈ L := by
  induction L with
  | nil => simp [withL]
  | cons y l ih =>
    intro x hx
    simp only [withL] at hx
    split at hx
    · simpa using hx
    · split at hx
      · exact .inr hx
      · rcases List.mem_cons.1 hx with rfl | hx
        · exact .inr (by simp)
        · rcases ih x hx with h | h
          · exact .inl h
          · exact .inr (by simp [h])
theorem encBr_expo {h : Hp} {t : Nat} {rows : List Sk} (ht : rows ≠ [] → lk h.toks t = some ⟨rows.map encR, 0, 1⟩) : Expo h (.agg [grA t (rows.map encR)]) (encBr rows) :=
  expo_agg (expoL_cons (expo_gr2 (s := 1) (pure_rows pureR rows) (fun hr => ht (fun e => hr (by rw [e]; rfl)))) expoL_nil)
theorem with_spec (s : Sk) (L : List Sk) (hs : s.length ≤ 2000000000) (hl : L.length ≤ 1000000000) (hL : ∀ x ∈ L, x.length ≤ 2000000000) : PCall Try.prog 49 [encBr L, encS s] (encBr (withL s L)) := by
  refine PCall_intro Try.func49 rfl Try.ntmps49 (rs := [.cell 4 31]) rfl (by simp) ?_
  simp -implicitDefEqProofs only [awl, ne_eq, srcRows, awo, aggEq, eqF, litEq, andO, qwl, qwo, Go.Ab.qOp, lop, oneK, stepOp, pairO, pureOp, heapOp, entry, slotsOf, ev, evL, evP, evO, lk, up, St.put, St.drop, constAV, cellAV, cellsAV, plain, binV, nilCmp, intBin, strBin, guardBit, boolOf, fnOf, intOfAV, bound, resOf, retV, moved, rowOf, valAt, Kd.agg, AV.cells, splice, places, fillAV, rowsFill, Hp.none, ↓reduceIte, reduceCtorEq, Nat.reduceLT, Nat.reduceEqDiff, Nat.reduceAdd, Nat.reduceLeDiff, Nat.reducePow, Nat.reduceMul, Yzz, Xzz, Yzy, tyW, encBr, List.length_map]
  refine aw_forE L.length 3 (wiS s L) (WiI s L) (Nat.le_refl _) (false, []) (St.wk.cp (St.wk_slots1 (by simp [lk]) (by simp [lk, grA]) (fun t => rfl))) ⟨by simp, by simp⟩ (fun i a hlt hI => ?_) (fun a hI => ?_)
  · obtain ⟨d, r⟩ := a
    obtain ⟨he, hn⟩ := hI
    simp only at he hn
    have i1 : (i : Int) < (L.length : Int) := by omega
    have ncast : ∀ n : Nat, (0 : Int) ≤ (n : Int) := Int.natCast_nonneg
    obtain ⟨x, hx⟩ : ∃ x, L[i]? = some x := ⟨_, List.getElem?_eq_getElem hlt⟩
    have gw := map_getD encR hx
    have er : encR x = [.vec (x.map encP) false] := rfl
    rw [er] at gw
    have hxl := hL x (List.mem_of_getElem? hx)
    have dx : L.drop i = x :: L.drop (i + 1) := by rw [List.drop_eq_getElem_cons hlt, (List.getElem?_eq_some_iff.1 hx).2]
    have hf1 : fits 1 24 := by decide
    have hf2 : fits 2 24 := by decide
    rw [dx] at he
    cases r with
    | nil =>
      simp -implicitDefEqProofs only [awl, ne_eq, srcRows, awo, aggEq, eqF, litEq, andO, qwl, qwo, Go.Ab.qOp, lop, oneK, stepOp, pairO, pureOp, heapOp, entry, slotsOf, ev, evL, evP, evO, lk, up, St.put, St.drop, constAV, cellAV, cellsAV, plain, binV, nilCmp, intBin, strBin, guardBit, boolOf, fnOf, intOfAV, bound, resOf, retV, moved, rowOf, valAt, Kd.agg, AV.cells, splice, places, fillAV, rowsFill, Hp.none, ↓reduceIte, reduceCtorEq, Nat.reduceLT, Nat.reduceEqDiff, Nat.reduceAdd, Nat.reduceLeDiff, Nat.reducePow, Nat.reduceMul, Yzz, Xzz, Yzy, tyW, wiS, encS, List.map_nil, grA_nil, grT_nil, grN_nil, List.length_map, i1, decide_true, decide_false, Bool.not_true, Bool.not_false, ncast, Int.toNat_natCast, gw, encR_take]
      refine CallK_pure call41 (less_spec s x hs hxl) (allc (pureS s) (allc (pureS x) alln)) (.lit _) ?_
      simp -implicitDefEqProofs only [awl, ne_eq, srcRows, awo, aggEq, eqF, litEq, andO, qwl, qwo, Go.Ab.qOp, lop, oneK, stepOp, pairO, pureOp, heapOp, entry, slotsOf, ev, evL, evP, evO, lk, up, St.put, St.drop, constAV, cellAV, cellsAV, plain, binV, nilCmp, intBin, strBin, guardBit, boolOf, fnOf, intOfAV, bound, resOf, retV, moved, rowOf, valAt, Kd.agg, AV.cells, splice, places, fillAV, rowsFill, Hp.none, ↓reduceIte, reduceCtorEq, Nat.reduceLT, Nat.reduceEqDiff, Nat.reduceAdd, Nat.reduceLeDiff, Nat.reducePow, Nat.reduceMul, Yzz, Xzz, Yzy, tyW]
      cases d with
      | true =>
        simp only [if_true] at hn
        simp -implicitDefEqProofs only [awl, ne_eq, srcRows, awo, aggEq, eqF, litEq, andO, qwl, qwo, Go.Ab.qOp, lop, oneK, stepOp, pairO, pureOp, heapOp, entry, slotsOf, ev, evL, evP, evO, lk, up, St.put, St.drop, constAV, cellAV, cellsAV, plain, binV, nilCmp, intBin, strBin, guardBit, boolOf, fnOf, intOfAV, bound, resOf, retV, moved, rowOf, valAt, Kd.agg, AV.cells, splice, places, fillAV, rowsFill, Hp.none, ↓reduceIte, reduceCtorEq, Nat.reduceLT, Nat.reduceEqDiff, Nat.reduceAdd, Nat.reduceLeDiff, Nat.reducePow, Nat.reduceMul, Yzz, Xzz, Yzy, tyW, wiS, encS, List.map_nil, grA_nil, grT_nil, grN_nil, List.length_map, i1, decide_true, decide_false, Bool.not_true, Bool.not_false, ncast, Int.toNat_natCast, gw, encR_take, List.mem_singleton, forall_eq, List.not_mem_nil, false_imp_iff, implies_true, hf1, hf2, List.length_cons, List.length_nil, decide_true]
        refine aw_drawC (n := 56) (σ' := wiS s L i (true, [] ++ [x])) 4 8 (.alt 8 (.alt 9 (.alt 10 .leaf .nil) .nil) .nil) rfl (by decide) (by decide) mixed (by kernel_rfl) (by decide) ?_ ?_
        · simp -implicitDefEqProofs only [awl, ne_eq, srcRows, awo, aggEq, eqF, litEq, andO, qwl, qwo, Go.Ab.qOp, lop, oneK, stepOp, pairO, pureOp, heapOp, entry, slotsOf, ev, evL, evP, evO, lk, up, St.put, St.drop, constAV, cellAV, cellsAV, plain, binV, nilCmp, intBin, strBin, guardBit, boolOf, fnOf, intOfAV, bound, resOf, retV, moved, rowOf, valAt, Kd.agg, AV.cells, splice, places, fillAV, rowsFill, Hp.none, ↓reduceIte, reduceCtorEq, Nat.reduceLT, Nat.reduceEqDiff, Nat.reduceAdd, Nat.reduceLeDiff, Nat.reducePow, Nat.reduceMul, Yzz, Xzz, Yzy, tyW, wiS, encS, List.map_nil, grA_nil, grT_nil, grN_nil, List.length_map, i1, decide_true, decide_false, Bool.not_true, Bool.not_false, ncast, Int.toNat_natCast, gw, encR_take, List.mem_singleton, forall_eq, List.not_mem_nil, false_imp_iff, implies_true, hf1, hf2, List.length_cons, List.length_nil]
          exact St.wk.cp (St.wk_slots1 (by simp [lk]) (by simp [lk, grA, List.map_append, encR, encS]) (fun t => by simp [grT, List.map_append, encR, encS]))
        · simp -implicitDefEqProofs (disch := omega) only [awl, ne_eq, srcRows, awo, aggEq, eqF, litEq, andO, qwl, qwo, Go.Ab.qOp, lop, oneK, stepOp, pairO, pureOp, heapOp, entry, slotsOf, ev, evL, evP, evO, lk, up, St.put, St.drop, constAV, cellAV, cellsAV, plain, binV, nilCmp, intBin, strBin, guardBit, boolOf, fnOf, intOfAV, bound, resOf, retV, moved, rowOf, valAt, Kd.agg, AV.cells, splice, places, fillAV, rowsFill, Hp.none, ↓reduceIte, reduceCtorEq, Nat.reduceLT, Nat.reduceEqDiff, Nat.reduceAdd, Nat.reduceLeDiff, Nat.reducePow, Nat.reduceMul, Yzz, Xzz, Yzy, tyW, wiS, i64w]
          exact ⟨(true, [] ++ [x]), ⟨by simpa using he, by simp <;> omega⟩, St.wk.cp (St.wk_slots1 (by simp [lk, encS]) (by simp [lk]) (fun t => rfl))⟩
      | false =>
        simp only [withL, Bool.false_eq_true, if_false] at he hn
        by_cases h0 : lessL s x < 0
        · have h1 : lessL s x ≤ 0 := by omega
          rw [if_pos h0] at he
          simp -implicitDefEqProofs only [awl, ne_eq, srcRows, awo, aggEq, eqF, litEq, andO, qwl, qwo, Go.Ab.qOp, lop, oneK, stepOp, pairO, pureOp, heapOp, entry, slotsOf, ev, evL, evP, evO, lk, up, St.put, St.drop, constAV, cellAV, cellsAV, plain, binV, nilCmp, intBin, strBin, guardBit, boolOf, fnOf, intOfAV, bound, resOf, retV, moved, rowOf, valAt, Kd.agg, AV.cells, splice, places, fillAV, rowsFill, Hp.none, ↓reduceIte, reduceCtorEq, Nat.reduceLT, Nat.reduceEqDiff, Nat.reduceAdd, Nat.reduceLeDiff, Nat.reducePow, Nat.reduceMul, Yzz, Xzz, Yzy, tyW, wiS, encS, List.map_nil, grA_nil, grT_nil, grN_nil, List.length_map, i1, decide_true, decide_false, Bool.not_true, Bool.not_false, ncast, Int.toNat_natCast, gw, encR_take, List.mem_singleton, forall_eq, List.not_mem_nil, false_imp_iff, implies_true, hf1, hf2, List.length_cons, List.length_nil, h0, h1]
          refine aw_drawC (n := 56) (σ' := wiS s L i (true, [] ++ [s, x])) 4 8 (.alt 8 (.alt 9 (.alt 10 .leaf .nil) .nil) .nil) rfl (by decide) (by decide) mixed (by kernel_rfl) (by decide) ?_ ?_
          · simp -implicitDefEqProofs only [awl, ne_eq, srcRows, awo, aggEq, eqF, litEq, andO, qwl, qwo, Go.Ab.qOp, lop, oneK, stepOp, pairO, pureOp, heapOp, entry, slotsOf, ev, evL, evP, evO, lk, up, St.put, St.drop, constAV, cellAV, cellsAV, plain, binV, nilCmp, intBin, strBin, guardBit, boolOf, fnOf, intOfAV, bound, resOf, retV, moved, rowOf, valAt, Kd.agg, AV.cells, splice, places, fillAV, rowsFill, Hp.none, ↓reduceIte, reduceCtorEq, Nat.reduceLT, Nat.reduceEqDiff, Nat.reduceAdd, Nat.reduceLeDiff, Nat.reducePow, Nat.reduceMul, Yzz, Xzz, Yzy, tyW, wiS, encS, List.map_nil, grA_nil, grT_nil, grN_nil, List.length_map, i1, decide_true, decide_false, Bool.not_true, Bool.not_false, ncast, Int.toNat_natCast, gw, encR_take, List.mem_singleton, forall_eq, List.not_mem_nil, false_imp_iff, implies_true, hf1, hf2, List.length_cons, List.length_nil]
            exact St.wk.cp (St.wk_slots1 (by simp [lk]) (by simp [lk, grA, List.map_append, encR, encS]) (fun t => by simp [grT, List.map_append, encR, encS]))
          · simp -implicitDefEqProofs (disch := omega) only [awl, ne_eq, srcRows, awo, aggEq, eqF, litEq, andO, qwl, qwo, Go.Ab.qOp, lop, oneK, stepOp, pairO, pureOp, heapOp, entry, slotsOf, ev, evL, evP, evO, lk, up, St.put, St.drop, constAV, cellAV, cellsAV, plain, binV, nilCmp, intBin, strBin, guardBit, boolOf, fnOf, intOfAV, bound, resOf, retV, moved, rowOf, valAt, Kd.agg, AV.cells, splice, places, fillAV, rowsFill, Hp.none, ↓reduceIte, reduceCtorEq, Nat.reduceLT, Nat.reduceEqDiff, Nat.reduceAdd, Nat.reduceLeDiff, Nat.reducePow, Nat.reduceMul, Yzz, Xzz, Yzy, tyW, wiS, i64w]
            exact ⟨(true, [] ++ [s, x]), ⟨by simpa using he, by simp <;> omega⟩, St.wk.cp (St.wk_slots1 (by simp [lk, encS]) (by simp [lk]) (fun t => rfl))⟩
        · rw [if_neg h0] at he
          by_cases h1 : lessL s x ≤ 0
          · rw [if_pos h1] at he
            simp -implicitDefEqProofs only [awl, ne_eq, srcRows, awo, aggEq, eqF, litEq, andO, qwl, qwo, Go.Ab.qOp, lop, oneK, stepOp, pairO, pureOp, heapOp, entry, slotsOf, ev, evL, evP, evO, lk, up, St.put, St.drop, constAV, cellAV, cellsAV, plain, binV, nilCmp, intBin, strBin, guardBit, boolOf, fnOf, intOfAV, bound, resOf, retV, moved, rowOf, valAt, Kd.agg, AV.cells, splice, places, fillAV, rowsFill, Hp.none, ↓reduceIte, reduceCtorEq, Nat.reduceLT, Nat.reduceEqDiff, Nat.reduceAdd, Nat.reduceLeDiff, Nat.reducePow, Nat.reduceMul, Yzz, Xzz, Yzy, tyW, wiS, encS, List.map_nil, grA_nil, grT_nil, grN_nil, List.length_map, i1, decide_true, decide_false, Bool.not_true, Bool.not_false, ncast, Int.toNat_natCast, gw, encR_take, List.mem_singleton, forall_eq, List.not_mem_nil, false_imp_iff, implies_true, hf1, hf2, List.length_cons, List.length_nil, h0, h1]
            refine aw_drawC (n := 56) (σ' := wiS s L i (true, [] ++ [x])) 4 8 (.alt 8 (.alt 9 (.alt 10 .leaf .nil) .nil) .nil) rfl (by decide) (by decide) mixed (by kernel_rfl) (by decide) ?_ ?_
            · simp -implicitDefEqProofs only [awl, ne_eq, srcRows, awo, aggEq, eqF, litEq, andO, qwl, qwo, Go.Ab.qOp, lop, oneK, stepOp, pairO, pureOp, heapOp, entry, slotsOf, ev, evL, evP, evO, lk, up, St.put, St.drop, constAV, cellAV, cellsAV, plain, binV, nilCmp, intBin, strBin, guardBit, boolOf, fnOf, intOfAV, bound, resOf, retV, moved, rowOf, valAt, Kd.agg, AV.cells, splice, places, fillAV, rowsFill, Hp.none, ↓reduceIte, reduceCtorEq, Nat.reduceLT, Nat.reduceEqDiff, Nat.reduceAdd, Nat.reduceLeDiff, Nat.reducePow, Nat.reduceMul, Yzz, Xzz, Yzy, tyW, wiS, encS, List.map_nil, grA_nil, grT_nil, grN_nil, List.length_map, i1, decide_true, decide_false, Bool.not_true, Bool.not_false, ncast, Int.toNat_natCast, gw, encR_take, List.mem_singleton, forall_eq, List.not_mem_nil, false_imp_iff, implies_true, hf1, hf2, List.length_cons, List.length_nil]
              exact St.wk.cp (St.wk_slots1 (by simp [lk]) (by simp [lk, grA, List.map_append, encR, encS]) (fun t => by simp [grT, List.map_append, encR, encS]))
            · simp -implicitDefEqProofs (disch := omega) only [awl, ne_eq, srcRows, awo, aggEq, eqF, litEq, andO, qwl, qwo, Go.Ab.qOp, lop, oneK, stepOp, pairO, pureOp, heapOp, entry, slotsOf, ev, evL, evP, evO, lk, up, St.put, St.drop, constAV, cellAV, cellsAV, plain, binV, nilCmp, intBin, strBin, guardBit, boolOf, fnOf, intOfAV, bound, resOf, retV, moved, rowOf, valAt, Kd.agg, AV.cells, splice, places, fillAV, rowsFill, Hp.none, ↓reduceIte, reduceCtorEq, Nat.reduceLT, Nat.reduceEqDiff, Nat.reduceAdd, Nat.reduceLeDiff, Nat.reducePow, Nat.reduceMul, Yzz, Xzz, Yzy, tyW, wiS, i64w]
              exact ⟨(true, [] ++ [x]), ⟨by simpa using he, by simp <;> omega⟩, St.wk.cp (St.wk_slots1 (by simp [lk, encS]) (by simp [lk]) (fun t => rfl))⟩
          · rw [if_neg h1] at he
            simp -implicitDefEqProofs only [awl, ne_eq, srcRows, awo, aggEq, eqF, litEq, andO, qwl, qwo, Go.Ab.qOp, lop, oneK, stepOp, pairO, pureOp, heapOp, entry, slotsOf, ev, evL, evP, evO, lk, up, St.put, St.drop, constAV, cellAV, cellsAV, plain, binV, nilCmp, intBin, strBin, guardBit, boolOf, fnOf, intOfAV, bound, resOf, retV, moved, rowOf, valAt, Kd.agg, AV.cells, splice, places, fillAV, rowsFill, Hp.none, ↓reduceIte, reduceCtorEq, Nat.reduceLT, Nat.reduceEqDiff, Nat.reduceAdd, Nat.reduceLeDiff, Nat.reducePow, Nat.reduceMul, Yzz, Xzz, Yzy, tyW, wiS, encS, List.map_nil, grA_nil, grT_nil, grN_nil, List.length_map, i1, decide_true, decide_false, Bool.not_true, Bool.not_false, ncast, Int.toNat_natCast, gw, encR_take, List.mem_singleton, forall_eq, List.not_mem_nil, false_imp_iff, implies_true, hf1, hf2, List.length_cons, List.length_nil, h0, h1]
            refine aw_drawC (n := 56) (σ' := wiS s L i (false, [] ++ [x])) 4 8 (.alt 8 (.alt 9 (.alt 10 .leaf .nil) .nil) .nil) rfl (by decide) (by decide) mixed (by kernel_rfl) (by decide) ?_ ?_
            · simp -implicitDefEqProofs only [awl, ne_eq, srcRows, awo, aggEq, eqF, litEq, andO, qwl, qwo, Go.Ab.qOp, lop, oneK, stepOp, pairO, pureOp, heapOp, entry, slotsOf, ev, evL, evP, evO, lk, up, St.put, St.drop, constAV, cellAV, cellsAV, plain, binV, nilCmp, intBin, strBin, guardBit, boolOf, fnOf, intOfAV, bound, resOf, retV, moved, rowOf, valAt, Kd.agg, AV.cells, splice, places, fillAV, rowsFill, Hp.none, ↓reduceIte, reduceCtorEq, Nat.reduceLT, Nat.reduceEqDiff, Nat.reduceAdd, Nat.reduceLeDiff, Nat.reducePow, Nat.reduceMul, Yzz, Xzz, Yzy, tyW, wiS, encS, List.map_nil, grA_nil, grT_nil, grN_nil, List.length_map, i1, decide_true, decide_false, Bool.not_true, Bool.not_false, ncast, Int.toNat_natCast, gw, encR_take, List.mem_singleton, forall_eq, List.not_mem_nil, false_imp_iff, implies_true, hf1, hf2, List.length_cons, List.length_nil]
              exact St.wk.cp (St.wk_slots1 (by simp [lk]) (by simp [lk, grA, List.map_append, encR, encS]) (fun t => by simp [grT, List.map_append, encR, encS]))
            · simp -implicitDefEqProofs (disch := omega) only [awl, ne_eq, srcRows, awo, aggEq, eqF, litEq, andO, qwl, qwo, Go.Ab.qOp, lop, oneK, stepOp, pairO, pureOp, heapOp, entry, slotsOf, ev, evL, evP, evO, lk, up, St.put, St.drop, constAV, cellAV, cellsAV, plain, binV, nilCmp, intBin, strBin, guardBit, boolOf, fnOf, intOfAV, bound, resOf, retV, moved, rowOf, valAt, Kd.agg, AV.cells, splice, places, fillAV, rowsFill, Hp.none, ↓reduceIte, reduceCtorEq, Nat.reduceLT, Nat.reduceEqDiff, Nat.reduceAdd, Nat.reduceLeDiff, Nat.reducePow, Nat.reduceMul, Yzz, Xzz, Yzy, tyW, wiS, i64w]
              exact ⟨(false, [] ++ [x]), ⟨by simpa using he, by simp <;> omega⟩, St.wk.cp (St.wk_slots1 (by simp [lk, encS]) (by simp [lk]) (fun t => rfl))⟩
    | cons y r =>
      simp only [List.length_cons] at hn
      have hn' : r.length + 1 ≤ i + 1 := by split at hn <;> omega
      have hfA : fits (r.length + 1 + 1) 24 := fits_of' (by omega) (by omega)
      have hfB : fits (r.length + 1 + 1 + 1) 24 := fits_of' (by omega) (by omega)
      have hr1 : ∀ q ∈ encR y :: r.map encR, q.length = 1 := row1 (y :: r)
      have hr2 : ∀ q ∈ encR y :: (r.map encR ++ [[encS s]]), q.length = 1 := fun q hq => row1 (y :: r ++ [s]) q (by simpa [encR] using hq)
      simp -implicitDefEqProofs only [awl, ne_eq, srcRows, awo, aggEq, eqF, litEq, andO, qwl, qwo, Go.Ab.qOp, lop, oneK, stepOp, pairO, pureOp, heapOp, entry, slotsOf, ev, evL, evP, evO, lk, up, St.put, St.drop, constAV, cellAV, cellsAV, plain, binV, nilCmp, intBin, strBin, guardBit, boolOf, fnOf, intOfAV, bound, resOf, retV, moved, rowOf, valAt, Kd.agg, AV.cells, splice, places, fillAV, rowsFill, Hp.none, ↓reduceIte, reduceCtorEq, Nat.reduceLT, Nat.reduceEqDiff, Nat.reduceAdd, Nat.reduceLeDiff, Nat.reducePow, Nat.reduceMul, Yzz, Xzz, Yzy, tyW, wiS, encS, List.map_cons, grA_cons, grT_cons, grN_cons, List.length_map, i1, decide_true, decide_false, Bool.not_true, Bool.not_false, ncast, Int.toNat_natCast, gw, encR_take]
      refine CallK_pure call41 (less_spec s x hs hxl) (allc (pureS s) (allc (pureS x) alln)) (.lit _) ?_
      simp -implicitDefEqProofs only [awl, ne_eq, srcRows, awo, aggEq, eqF, litEq, andO, qwl, qwo, Go.Ab.qOp, lop, oneK, stepOp, pairO, pureOp, heapOp, entry, slotsOf, ev, evL, evP, evO, lk, up, St.put, St.drop, constAV, cellAV, cellsAV, plain, binV, nilCmp, intBin, strBin, guardBit, boolOf, fnOf, intOfAV, bound, resOf, retV, moved, rowOf, valAt, Kd.agg, AV.cells, splice, places, fillAV, rowsFill, Hp.none, ↓reduceIte, reduceCtorEq, Nat.reduceLT, Nat.reduceEqDiff, Nat.reduceAdd, Nat.reduceLeDiff, Nat.reducePow, Nat.reduceMul, Yzz, Xzz, Yzy, tyW]
      cases d with
      | true =>
        simp only [if_true] at hn
        simp -implicitDefEqProofs only [awl, ne_eq, srcRows, awo, aggEq, eqF, litEq, andO, qwl, qwo, Go.Ab.qOp, lop, oneK, stepOp, pairO, pureOp, heapOp, entry, slotsOf, ev, evL, evP, evO, lk, up, St.put, St.drop, constAV, cellAV, cellsAV, plain, binV, nilCmp, intBin, strBin, guardBit, boolOf, fnOf, intOfAV, bound, resOf, retV, moved, rowOf, valAt, Kd.agg, AV.cells, splice, places, fillAV, rowsFill, Hp.none, ↓reduceIte, reduceCtorEq, Nat.reduceLT, Nat.reduceEqDiff, Nat.reduceAdd, Nat.reduceLeDiff, Nat.reducePow, Nat.reduceMul, Yzz, Xzz, Yzy, tyW, wiS, encS, List.map_cons, grA_cons, grT_cons, grN_cons, List.length_map, i1, decide_true, decide_false, Bool.not_true, Bool.not_false, ncast, Int.toNat_natCast, gw, encR_take, List.mem_singleton, forall_eq, List.not_mem_nil, false_imp_iff, implies_true, hfA, hfB, hr1, hr2, List.length_append, List.length_cons, List.length_nil, List.length_map, List.append_assoc, List.cons_append, decide_true]
        refine aw_drawC (n := 56) (σ' := wiS s L i (true, (y :: r) ++ [x])) 4 8 (.alt 8 (.alt 9 (.alt 10 .leaf .nil) .nil) .nil) rfl (by decide) (by decide) mixed (by kernel_rfl) (by decide) ?_ ?_
        · simp -implicitDefEqProofs only [awl, ne_eq, srcRows, awo, aggEq, eqF, litEq, andO, qwl, qwo, Go.Ab.qOp, lop, oneK, stepOp, pairO, pureOp, heapOp, entry, slotsOf, ev, evL, evP, evO, lk, up, St.put, St.drop, constAV, cellAV, cellsAV, plain, binV, nilCmp, intBin, strBin, guardBit, boolOf, fnOf, intOfAV, bound, resOf, retV, moved, rowOf, valAt, Kd.agg, AV.cells, splice, places, fillAV, rowsFill, Hp.none, ↓reduceIte, reduceCtorEq, Nat.reduceLT, Nat.reduceEqDiff, Nat.reduceAdd, Nat.reduceLeDiff, Nat.reducePow, Nat.reduceMul, Yzz, Xzz, Yzy, tyW, wiS, encS, List.map_cons, grA_cons, grT_cons, grN_cons, List.length_map, i1, decide_true, decide_false, Bool.not_true, Bool.not_false, ncast, Int.toNat_natCast, gw, encR_take, List.mem_singleton, forall_eq, List.not_mem_nil, false_imp_iff, implies_true, hfA, hfB, hr1, hr2, List.length_append, List.length_cons, List.length_nil, List.length_map, List.append_assoc, List.cons_append]
          exact St.wk.cp (St.wk_slots1 (by simp [lk]) (by simp [lk, grA, List.map_append, encR, encS]) (fun t => by simp [grT, List.map_append, encR, encS]))
        · simp -implicitDefEqProofs (disch := omega) only [awl, ne_eq, srcRows, awo, aggEq, eqF, litEq, andO, qwl, qwo, Go.Ab.qOp, lop, oneK, stepOp, pairO, pureOp, heapOp, entry, slotsOf, ev, evL, evP, evO, lk, up, St.put, St.drop, constAV, cellAV, cellsAV, plain, binV, nilCmp, intBin, strBin, guardBit, boolOf, fnOf, intOfAV, bound, resOf, retV, moved, rowOf, valAt, Kd.agg, AV.cells, splice, places, fillAV, rowsFill, Hp.none, ↓reduceIte, reduceCtorEq, Nat.reduceLT, Nat.reduceEqDiff, Nat.reduceAdd, Nat.reduceLeDiff, Nat.reducePow, Nat.reduceMul, Yzz, Xzz, Yzy, tyW, wiS, i64w]
          exact ⟨(true, (y :: r) ++ [x]), ⟨by simpa using he, by simp <;> omega⟩, St.wk.cp (St.wk_slots1 (by simp [lk, encS]) (by simp [lk]) (fun t => rfl))⟩
      | false =>
        simp only [withL, Bool.false_eq_true, if_false] at he hn
        by_cases h0 : lessL s x < 0
        · have h1 : lessL s x ≤ 0 := by omega
          rw [if_pos h0] at he
          simp -implicitDefEqProofs only [awl, ne_eq, srcRows, awo, aggEq, eqF, litEq, andO, qwl, qwo, Go.Ab.qOp, lop, oneK, stepOp, pairO, pureOp, heapOp, entry, slotsOf, ev, evL, evP, evO, lk, up, St.put, St.drop, constAV, cellAV, cellsAV, plain, binV, nilCmp, intBin, strBin, guardBit, boolOf, fnOf, intOfAV, bound, resOf, retV, moved, rowOf, valAt, Kd.agg, AV.cells, splice, places, fillAV, rowsFill, Hp.none, ↓reduceIte, reduceCtorEq, Nat.reduceLT, Nat.reduceEqDiff, Nat.reduceAdd, Nat.reduceLeDiff, Nat.reducePow, Nat.reduceMul, Yzz, Xzz, Yzy, tyW, wiS, encS, List.map_cons, grA_cons, grT_cons, grN_cons, List.length_map, i1, decide_true, decide_false, Bool.not_true, Bool.not_false, ncast, Int.toNat_natCast, gw, encR_take, List.mem_singleton, forall_eq, List.not_mem_nil, false_imp_iff, implies_true, hfA, hfB, hr1, hr2, List.length_append, List.length_cons, List.length_nil, List.length_map, List.append_assoc, List.cons_append, h0, h1]
          refine aw_drawC (n := 56) (σ' := wiS s L i (true, (y :: r) ++ [s, x])) 4 8 (.alt 8 (.alt 9 (.alt 10 .leaf .nil) .nil) .nil) rfl (by decide) (by decide) mixed (by kernel_rfl) (by decide) ?_ ?_
          · simp -implicitDefEqProofs only [awl, ne_eq, srcRows, awo, aggEq, eqF, litEq, andO, qwl, qwo, Go.Ab.qOp, lop, oneK, stepOp, pairO, pureOp, heapOp, entry, slotsOf, ev, evL, evP, evO, lk, up, St.put, St.drop, constAV, cellAV, cellsAV, plain, binV, nilCmp, intBin, strBin, guardBit, boolOf, fnOf, intOfAV, bound, resOf, retV, moved, rowOf, valAt, Kd.agg, AV.cells, splice, places, fillAV, rowsFill, Hp.none, ↓reduceIte, reduceCtorEq, Nat.reduceLT, Nat.reduceEqDiff, Nat.reduceAdd, Nat.reduceLeDiff, Nat.reducePow, Nat.reduceMul, Yzz, Xzz, Yzy, tyW, wiS, encS, List.map_cons, grA_cons, grT_cons, grN_cons, List.length_map, i1, decide_true, decide_false, Bool.not_true, Bool.not_false, ncast, Int.toNat_natCast, gw, encR_take, List.mem_singleton, forall_eq, List.not_mem_nil, false_imp_iff, implies_true, hfA, hfB, hr1, hr2, List.length_append, List.length_cons, List.length_nil, List.length_map, List.append_assoc, List.cons_append]
            exact St.wk.cp (St.wk_slots1 (by simp [lk]) (by simp [lk, grA, List.map_append, encR, encS]) (fun t => by simp [grT, List.map_append, encR, encS]))
          · simp -implicitDefEqProofs (disch := omega) only [awl, ne_eq, srcRows, awo, aggEq, eqF, litEq, andO, qwl, qwo, Go.Ab.qOp, lop, oneK, stepOp, pairO, pureOp, heapOp, entry, slotsOf, ev, evL, evP, evO, lk, up, St.put, St.drop, constAV, cellAV, cellsAV, plain, binV, nilCmp, intBin, strBin, guardBit, boolOf, fnOf, intOfAV, bound, resOf, retV, moved, rowOf, valAt, Kd.agg, AV.cells, splice, places, fillAV, rowsFill, Hp.none, ↓reduceIte, reduceCtorEq, Nat.reduceLT, Nat.reduceEqDiff, Nat.reduceAdd, Nat.reduceLeDiff, Nat.reducePow, Nat.reduceMul, Yzz, Xzz, Yzy, tyW, wiS, i64w]
            exact ⟨(true, (y :: r) ++ [s, x]), ⟨by simpa using he, by simp <;> omega⟩, St.wk.cp (St.wk_slots1 (by simp [lk, encS]) (by simp [lk]) (fun t => rfl))⟩
        · rw [if_neg h0] at he
          by_cases h1 : lessL s x ≤ 0
          · rw [if_pos h1] at he
            simp -implicitDefEqProofs only [awl, ne_eq, srcRows, awo, aggEq, eqF, litEq, andO, qwl, qwo, Go.Ab.qOp, lop, oneK, stepOp, pairO, pureOp, heapOp, entry, slotsOf, ev, evL, evP, evO, lk, up, St.put, St.drop, constAV, cellAV, cellsAV, plain, binV, nilCmp, intBin, strBin, guardBit, boolOf, fnOf, intOfAV, bound, resOf, retV, moved, rowOf, valAt, Kd.agg, AV.cells, splice, places, fillAV, rowsFill, Hp.none, ↓reduceIte, reduceCtorEq, Nat.reduceLT, Nat.reduceEqDiff, Nat.reduceAdd, Nat.reduceLeDiff, Nat.reducePow, Nat.reduceMul, Yzz, Xzz, Yzy, tyW, wiS, encS, List.map_cons, grA_cons, grT_cons, grN_cons, List.length_map, i1, decide_true, decide_false, Bool.not_true, Bool.not_false, ncast, Int.toNat_natCast, gw, encR_take, List.mem_singleton, forall_eq, List.not_mem_nil, false_imp_iff, implies_true, hfA, hfB, hr1, hr2, List.length_append, List.length_cons, List.length_nil, List.length_map, List.append_assoc, List.cons_append, h0, h1]
            refine aw_drawC (n := 56) (σ' := wiS s L i (true, (y :: r) ++ [x])) 4 8 (.alt 8 (.alt 9 (.alt 10 .leaf .nil) .nil) .nil) rfl (by decide) (by decide) mixed (by kernel_rfl) (by decide) ?_ ?_
            · simp -implicitDefEqProofs only [awl, ne_eq, srcRows, awo, aggEq, eqF, litEq, andO, qwl, qwo, Go.Ab.qOp, lop, oneK, stepOp, pairO, pureOp, heapOp, entry, slotsOf, ev, evL, evP, evO, lk, up, St.put, St.drop, constAV, cellAV, cellsAV, plain, binV, nilCmp, intBin, strBin, guardBit, boolOf, fnOf, intOfAV, bound, resOf, retV, moved, rowOf, valAt, Kd.agg, AV.cells, splice, places, fillAV, rowsFill, Hp.none, ↓reduceIte, reduceCtorEq, Nat.reduceLT, Nat.reduceEqDiff, Nat.reduceAdd, Nat.reduceLeDiff, Nat.reducePow, Nat.reduceMul, Yzz, Xzz, Yzy, tyW, wiS, encS, List.map_cons, grA_cons, grT_cons, grN_cons, List.length_map, i1, decide_true, decide_false, Bool.not_true, Bool.not_false, ncast, Int.toNat_natCast, gw, encR_take, List.mem_singleton, forall_eq, List.not_mem_nil, false_imp_iff, implies_true, hfA, hfB, hr1, hr2, List.length_append, List.length_cons, List.length_nil, List.length_map, List.append_assoc, List.cons_append]
              exact St.wk.cp (St.wk_slots1 (by simp [lk]) (by simp [lk, grA, List.map_append, encR, encS]) (fun t => by simp [grT, List.map_append, encR, encS]))
            · simp -implicitDefEqProofs (disch := omega) only [awl, ne_eq, srcRows, awo, aggEq, eqF, litEq, andO, qwl, qwo, Go.Ab.qOp, lop, oneK, stepOp, pairO, pureOp, heapOp, entry, slotsOf, ev, evL, evP, evO, lk, up, St.put, St.drop, constAV, cellAV, cellsAV, plain, binV, nilCmp, intBin, strBin, guardBit, boolOf, fnOf, intOfAV, bound, resOf, retV, moved, rowOf, valAt, Kd.agg, AV.cells, splice, places, fillAV, rowsFill, Hp.none, ↓reduceIte, reduceCtorEq, Nat.reduceLT, Nat.reduceEqDiff, Nat.reduceAdd, Nat.reduceLeDiff, Nat.reducePow, Nat.reduceMul, Yzz, Xzz, Yzy, tyW, wiS, i64w]
              exact ⟨(true, (y :: r) ++ [x]), ⟨by simpa using he, by simp <;> omega⟩, St.wk.cp (St.wk_slots1 (by simp [lk, encS]) (by simp [lk]) (fun t => rfl))⟩
          · rw [if_neg h1] at he
            simp -implicitDefEqProofs only [awl, ne_eq, srcRows, awo, aggEq, eqF, litEq, andO, qwl, qwo, Go.Ab.qOp, lop, oneK, stepOp, pairO, pureOp, heapOp, entry, slotsOf, ev, evL, evP, evO, lk, up, St.put, St.drop, constAV, cellAV, cellsAV, plain, binV, nilCmp, intBin, strBin, guardBit, boolOf, fnOf, intOfAV, bound, resOf, retV, moved, rowOf, valAt, Kd.agg, AV.cells, splice, places, fillAV, rowsFill, Hp.none, ↓reduceIte, reduceCtorEq, Nat.reduceLT, Nat.reduceEqDiff, Nat.reduceAdd, Nat.reduceLeDiff, Nat.reducePow, Nat.reduceMul, Yzz, Xzz, Yzy, tyW, wiS, encS, List.map_cons, grA_cons, grT_cons, grN_cons, List.length_map, i1, decide_true, decide_false, Bool.not_true, Bool.not_false, ncast, Int.toNat_natCast, gw, encR_take, List.mem_singleton, forall_eq, List.not_mem_nil, false_imp_iff, implies_true, hfA, hfB, hr1, hr2, List.length_append, List.length_cons, List.length_nil, List.length_map, List.append_assoc, List.cons_append, h0, h1]
            refine aw_drawC (n := 56) (σ' := wiS s L i (false, (y :: r) ++ [x])) 4 8 (.alt 8 (.alt 9 (.alt 10 .leaf .nil) .nil) .nil) rfl (by decide) (by decide) mixed (by kernel_rfl) (by decide) ?_ ?_
            · simp -implicitDefEqProofs only [awl, ne_eq, srcRows, awo, aggEq, eqF, litEq, andO, qwl, qwo, Go.Ab.qOp, lop, oneK, stepOp, pairO, pureOp, heapOp, entry, slotsOf, ev, evL, evP, evO, lk, up, St.put, St.drop, constAV, cellAV, cellsAV, plain, binV, nilCmp, intBin, strBin, guardBit, boolOf, fnOf, intOfAV, bound, resOf, retV, moved, rowOf, valAt, Kd.agg, AV.cells, splice, places, fillAV, rowsFill, Hp.none, ↓reduceIte, reduceCtorEq, Nat.reduceLT, Nat.reduceEqDiff, Nat.reduceAdd, Nat.reduceLeDiff, Nat.reducePow, Nat.reduceMul, Yzz, Xzz, Yzy, tyW, wiS, encS, List.map_cons, grA_cons, grT_cons, grN_cons, List.length_map, i1, decide_true, decide_false, Bool.not_true, Bool.not_false, ncast, Int.toNat_natCast, gw, encR_take, List.mem_singleton, forall_eq, List.not_mem_nil, false_imp_iff, implies_true, hfA, hfB, hr1, hr2, List.length_append, List.length_cons, List.length_nil, List.length_map, List.append_assoc, List.cons_append]
              exact St.wk.cp (St.wk_slots1 (by simp [lk]) (by simp [lk, grA, List.map_append, encR, encS]) (fun t => by simp [grT, List.map_append, encR, encS]))
            · simp -implicitDefEqProofs (disch := omega) only [awl, ne_eq, srcRows, awo, aggEq, eqF, litEq, andO, qwl, qwo, Go.Ab.qOp, lop, oneK, stepOp, pairO, pureOp, heapOp, entry, slotsOf, ev, evL, evP, evO, lk, up, St.put, St.drop, constAV, cellAV, cellsAV, plain, binV, nilCmp, intBin, strBin, guardBit, boolOf, fnOf, intOfAV, bound, resOf, retV, moved, rowOf, valAt, Kd.agg, AV.cells, splice, places, fillAV, rowsFill, Hp.none, ↓reduceIte, reduceCtorEq, Nat.reduceLT, Nat.reduceEqDiff, Nat.reduceAdd, Nat.reduceLeDiff, Nat.reducePow, Nat.reduceMul, Yzz, Xzz, Yzy, tyW, wiS, i64w]
              exact ⟨(false, (y :: r) ++ [x]), ⟨by simpa using he, by simp <;> omega⟩, St.wk.cp (St.wk_slots1 (by simp [lk, encS]) (by simp [lk]) (fun t => rfl))⟩
  · obtain ⟨d, r⟩ := a
    obtain ⟨he, hn⟩ := hI
    simp only [List.drop_length] at he hn
    have i1 : ¬ (L.length : Int) < (L.length : Int) := by omega
    have hf1 : fits 1 24 := by decide
    cases d with
    | true =>
      have he : withL s L = r := by simpa using he
      rw [he]
      simp -implicitDefEqProofs only [awl, ne_eq, srcRows, awo, aggEq, eqF, litEq, andO, qwl, qwo, Go.Ab.qOp, lop, oneK, stepOp, pairO, pureOp, heapOp, entry, slotsOf, ev, evL, evP, evO, lk, up, St.put, St.drop, constAV, cellAV, cellsAV, plain, binV, nilCmp, intBin, strBin, guardBit, boolOf, fnOf, intOfAV, bound, resOf, retV, moved, rowOf, valAt, Kd.agg, AV.cells, splice, places, fillAV, rowsFill, Hp.none, ↓reduceIte, reduceCtorEq, Nat.reduceLT, Nat.reduceEqDiff, Nat.reduceAdd, Nat.reduceLeDiff, Nat.reducePow, Nat.reduceMul, Yzz, Xzz, Yzy, tyW, wiS, encS, i1, decide_false, Bool.not_true, Bool.not_false, List.length_map]
      exact encBr_expo (t := 3) (fun h => lk_grT' (by simpa using h))
    | false =>
      have he : withL s L = r ++ [s] := by simpa [withL] using he
      rw [he]
      cases r with
      | nil =>
        simp -implicitDefEqProofs only [awl, ne_eq, srcRows, awo, aggEq, eqF, litEq, andO, qwl, qwo, Go.Ab.qOp, lop, oneK, stepOp, pairO, pureOp, heapOp, entry, slotsOf, ev, evL, evP, evO, lk, up, St.put, St.drop, constAV, cellAV, cellsAV, plain, binV, nilCmp, intBin, strBin, guardBit, boolOf, fnOf, intOfAV, bound, resOf, retV, moved, rowOf, valAt, Kd.agg, AV.cells, splice, places, fillAV, rowsFill, Hp.none, ↓reduceIte, reduceCtorEq, Nat.reduceLT, Nat.reduceEqDiff, Nat.reduceAdd, Nat.reduceLeDiff, Nat.reducePow, Nat.reduceMul, Yzz, Xzz, Yzy, tyW, wiS, encS, i1, decide_false, Bool.not_true, Bool.not_false, List.length_map, List.map_nil, grA_nil, grT_nil, grN_nil, List.mem_singleton, forall_eq, List.not_mem_nil, false_imp_iff, implies_true, hf1, List.length_cons, List.length_nil]
        exact encBr_expo (t := 3) (rows := [s]) (fun h => rfl)
      | cons y r =>
        simp only [List.length_cons] at hn
        simp only [Bool.false_eq_true, if_false] at hn
        have hfA : fits (r.length + 1 + 1) 24 := fits_of' (by omega) (by omega)
        have hr1 : ∀ q ∈ encR y :: r.map encR, q.length = 1 := row1 (y :: r)
        have fin := encBr_expo (h := ⟨[(0, [.vec (L.map encR) false]), (1, [.own 3 (r.length + 1 + 1)]), (2, [.own 3 (r.length + 1 + 1)])], [(3, ⟨(y :: r ++ [s]).map encR, 0, 1⟩)], 4⟩) (t := 3) (rows := y :: r ++ [s]) (fun h => rfl)
        simp only [List.map_append, List.map_cons, List.map_nil, List.cons_append, grA_cons, List.length_append, List.length_map, List.length_cons, List.length_nil, Nat.zero_add] at fin ⊢
        simp -implicitDefEqProofs only [awl, ne_eq, srcRows, awo, aggEq, eqF, litEq, andO, qwl, qwo, Go.Ab.qOp, lop, oneK, stepOp, pairO, pureOp, heapOp, entry, slotsOf, ev, evL, evP, evO, lk, up, St.put, St.drop, constAV, cellAV, cellsAV, plain, binV, nilCmp, intBin, strBin, guardBit, boolOf, fnOf, intOfAV, bound, resOf, retV, moved, rowOf, valAt, Kd.agg, AV.cells, splice, places, fillAV, rowsFill, Hp.none, ↓reduceIte, reduceCtorEq, Nat.reduceLT, Nat.reduceEqDiff, Nat.reduceAdd, Nat.reduceLeDiff, Nat.reducePow, Nat.reduceMul, Yzz, Xzz, Yzy, tyW, wiS, encS, i1, decide_false, Bool.not_true, Bool.not_false, List.length_map, List.map_cons, grA_cons, grT_cons, grN_cons, List.mem_singleton, forall_eq, List.not_mem_nil, false_imp_iff, implies_true, hfA, hr1, List.length_append, List.length_cons, List.length_nil, List.cons_append]
        simpa [encBr, encR, encS] using fin
end Go.Proofs.Ytfnmdmadaljjkaa
end

section
namespace Go.Proofs.Ytfnmdmadaljjkaa
open Go.Ab
set_option linter.unusedSimpArgs false
set_option linter.unusedVariables false
set_option maxRecDepth 20000
set_option maxHeartbeats 4000000

theorem cv_row {g g' : Gh} {a b : AV} {f : Bool} (hm : memLe g.mem g'.mem) (h : Cv g g' a b) : Cv g g' (.vec [[a]] f) (.vec [[b]] false) := fun v hv => by
  generalize hx : [[a]] = xs at hv
  cases hv with
  | vecN => cases hx
  | vecE _ => cases hx
  | @vec b0 off cap s0 _ _ fn h1 h2 h3 h4 h5 =>
    subst hx
    have hlen : ([[a]] : List (List AV)).length = ([[b]] : List (List AV)).length := rfl
    rw [hlen]
    refine .vec (s := s0) fn (fun x hx => ?_) (fun e => by cases e) (by simpa using h3) (fun i x j c e1 e2 => ?_) (fun i x j c e1 e2 => ?_)
    · rcases List.mem_singleton.1 hx with rfl
      exact (h1 [a] (by simp))
    · cases i with
      | zero =>
        simp only [List.getElem?_cons_zero, Option.some.injEq] at e1
        subst e1
        cases j with
        | zero => exact hm _ _ _ (h4 0 [a] 0 a rfl rfl)
        | succ j => simp at e2
      | succ i => simp at e1
    · cases i with
      | zero =>
        simp only [List.getElem?_cons_zero, Option.some.injEq] at e1
        subst e1
        cases j with
        | zero =>
          simp only [List.getElem?_cons_zero, Option.some.injEq] at e2
          subst e2
          exact h _ (h5 0 [a] 0 a rfl rfl)
        | succ j => simp at e2
      | succ i => simp at e1
theorem expo_frz {h : Hp} {t : Nat} {k : Tk} {r' r : AV} (hk : lk h.toks t = some k) (hc : ∀ g g' : Gh, memLe g.mem g'.mem → Cv g g' (.own t k.xs.length) (.vec k.xs false) → Cv g g' r' r) (hr : Ab.Pure r) : Expo h r' r := by
  intro g w v rel hv
  obtain ⟨b, c, vs, ty, q1, q2, q3, q4, q5, q6, q7, q8, q9⟩ := rel.tok t k hk
  obtain ⟨g', r1, r2, r3, r4, r5⟩ := rel.freeze' hk q1 q2 q3
  exact ⟨g'.mem, r2, r1, fun b' o v' e => (r3 b' o v' e).imp id fun q => .inr (.inl ⟨t, k, c, _, hk, q ▸ q1⟩), hr g' _ v (fun _ _ _ e => e) (hc g g' r2 r4 v hv)⟩

theorem Empty_r : PCall Try.prog 25 [] (encBr [[]]) := by
  refine PCall_intro Try.func25 rfl Try.ntmps25 (rs := [.cell 0 31]) rfl (by simp) ?_
  simp -implicitDefEqProofs only [awl, ne_eq, srcRows, awo, aggEq, eqF, litEq, andO, qwl, qwo, Go.Ab.qOp, lop, oneK, stepOp, pairO, pureOp, heapOp, entry, slotsOf, ev, evL, evP, evO, lk, up, St.put, St.drop, constAV, cellAV, cellsAV, plain, binV, nilCmp, intBin, strBin, guardBit, boolOf, fnOf, intOfAV, bound, resOf, retV, moved, rowOf, valAt, Kd.agg, AV.cells, splice, places, fillAV, rowsFill, Hp.none, ↓reduceIte, reduceCtorEq, Nat.reduceLT, Nat.reduceEqDiff, Nat.reduceAdd, Nat.reduceLeDiff, Nat.reducePow, Nat.reduceMul, Yzz, Xzz, Yzy, tyW]
  exact Expo.cv (r2 := encBr [[]]) (fun g => cv_agg (cvL_cons (cv_row (fun _ _ _ e => e) (cv_full (.refl g) _ _)) cvL_nil)) (expo_pure (pureBr [[]]))
theorem Of_r (l : Sk) (hl : l.length ≤ 2000000000) : PCall Try.prog 27 [encS l] (encBr [l]) := by
  refine PCall_intro Try.func27 rfl Try.ntmps27 (rs := [.cell 2 31]) rfl (by simp) ?_
  have r2 : ∀ q ∈ l.map encP, q.length = 2 := fun q hq => by obtain ⟨v, _, rfl⟩ := List.mem_map.1 hq; rfl
  have hf : fits l.length 16 := fits_of' hl (by omega)
  simp -implicitDefEqProofs only [awl, ne_eq, srcRows, awo, aggEq, eqF, litEq, andO, qwl, qwo, Go.Ab.qOp, lop, oneK, stepOp, pairO, pureOp, heapOp, entry, slotsOf, ev, evL, evP, evO, lk, up, St.put, St.drop, constAV, cellAV, cellsAV, plain, binV, nilCmp, intBin, strBin, guardBit, boolOf, fnOf, intOfAV, bound, resOf, retV, moved, rowOf, valAt, Kd.agg, AV.cells, splice, places, fillAV, rowsFill, Hp.none, ↓reduceIte, reduceCtorEq, Nat.reduceLT, Nat.reduceEqDiff, Nat.reduceAdd, Nat.reduceLeDiff, Nat.reducePow, Nat.reduceMul, Yzz, Xzz, Yzy, tyW, encS, r2, implies_true, List.length_map, hf, List.not_mem_nil, false_imp_iff]
  cases l with
  | nil =>
    simp -implicitDefEqProofs only [awl, ne_eq, srcRows, awo, aggEq, eqF, litEq, andO, qwl, qwo, Go.Ab.qOp, lop, oneK, stepOp, pairO, pureOp, heapOp, entry, slotsOf, ev, evL, evP, evO, lk, up, St.put, St.drop, constAV, cellAV, cellsAV, plain, binV, nilCmp, intBin, strBin, guardBit, boolOf, fnOf, intOfAV, bound, resOf, retV, moved, rowOf, valAt, Kd.agg, AV.cells, splice, places, fillAV, rowsFill, Hp.none, ↓reduceIte, reduceCtorEq, Nat.reduceLT, Nat.reduceEqDiff, Nat.reduceAdd, Nat.reduceLeDiff, Nat.reducePow, Nat.reduceMul, Yzz, Xzz, Yzy, tyW]
    exact Expo.cv (r2 := encBr [[]]) (fun g => cv_agg (cvL_cons (cv_row (fun _ _ _ e => e) (cv_full (.refl g) _ _)) cvL_nil)) (expo_pure (pureBr [[]]))
  | cons x l =>
    have h0 : ((x :: l).length = 0) = False := by simp
    have r3 : ∀ q ∈ encP x :: l.map encP, q.length = 2 := r2
    simp -implicitDefEqProofs only [awl, ne_eq, srcRows, awo, aggEq, eqF, litEq, andO, qwl, qwo, Go.Ab.qOp, lop, oneK, stepOp, pairO, pureOp, heapOp, entry, slotsOf, ev, evL, evP, evO, lk, up, St.put, St.drop, constAV, cellAV, cellsAV, plain, binV, nilCmp, intBin, strBin, guardBit, boolOf, fnOf, intOfAV, bound, resOf, retV, moved, rowOf, valAt, Kd.agg, AV.cells, splice, places, fillAV, rowsFill, Hp.none, ↓reduceIte, reduceCtorEq, Nat.reduceLT, Nat.reduceEqDiff, Nat.reduceAdd, Nat.reduceLeDiff, Nat.reducePow, Nat.reduceMul, Yzz, Xzz, Yzy, tyW, h0, if_false, eq_true r3, if_true]
    refine expo_frz (t := 1) (k := ⟨(x :: l).map encP, 0, 2⟩) ?_ (fun g g' hm hc => cv_agg (cvL_cons (cv_row hm ?_) cvL_nil)) (pureBr [x :: l])
    · rfl
    · simpa [encS] using hc
def psS (f : Int × Int) (L : List Sk) (i : Nat) (B : List Sk) : St :=
  ⟨[(6, .lit (.int .i64 (i : Int))), (5, .ptr 3 0), (4, .ptr 2 0), (3, .ptr 1 0), (2, .ptr 0 0)], ⟨[(0, [.vec (L.map encR) false]), (1, encP f), (2, [.vec [] true]), (3, [.vec (B.map encR) false])], [], 4⟩, 30⟩
def pushL (f : Int × Int) (L : List Sk) : List Sk := L.foldl (fun out x => withL (x ++ [f]) out) []
def joinL (A L : List Sk) : List Sk := L.foldl (fun out x => withL x out) A
def jrS (A L : List Sk) (i : Nat) (_ : Unit) : St :=
  ⟨[(5, .lit (.int .i64 (i : Int))), (4, .ptr 2 0), (3, .ptr 1 0), (2, .ptr 0 0)], ⟨[(0, [.vec ((joinL A (L.take i)).map encR) false]), (1, [.vec (L.map encR) false]), (2, [.vec [] true])], [], 3⟩, 21⟩
theorem joinL_next {A L : List Sk} {i : Nat} {x : Sk} (h : L[i]? = some x) : joinL A (L.take (i + 1)) = withL x (joinL A (L.take i)) := by
  unfold joinL; rw [List.take_add_one, h, List.foldl_append]; rfl
theorem joinL_len (A L : List Sk) : (joinL A L).length ≤ A.length + L.length := by
  unfold joinL
  induction L generalizing A with
  | nil => simp
  | cons x l ih =>
    have h1 := ih (withL x A)
    have h2 := withL_len x A
    simp only [List.foldl_cons, List.length_cons] at *
    omega
theorem joinL_mem (A L : List Sk) : ∀ x ∈ joinL A L, x ∈ A ∨ x ∈ L := by
  unfold joinL
  induction L generalizing A with
  | nil => simp
  | cons y l ih =>
    intro x hx
    rcases ih _ x hx with h | h
    · rcases withL_mem y A x h with rfl | h
      · exact .inr (by simp)
      · exact .inl h
    · exact .inr (by simp [h])
theorem Join_r (A L : List Sk) (hA : A.length ≤ 300000000) (hl : L.length ≤ 300000000) (hA' : ∀ x ∈ A, x.length ≤ 1000000000) (hL : ∀ x ∈ L, x.length ≤ 1000000000) : PCall Try.prog 29 [encBr A, encBr L] (encBr (joinL A L)) := by
  refine PCall_intro Try.func29 rfl Try.ntmps29 (rs := [.cell 4 31]) rfl (by simp) ?_
  simp -implicitDefEqProofs only [awl, ne_eq, srcRows, awo, aggEq, eqF, litEq, andO, qwl, qwo, Go.Ab.qOp, lop, oneK, stepOp, pairO, pureOp, heapOp, entry, slotsOf, ev, evL, evP, evO, lk, up, St.put, St.drop, constAV, cellAV, cellsAV, plain, binV, nilCmp, intBin, strBin, guardBit, boolOf, fnOf, intOfAV, bound, resOf, retV, moved, rowOf, valAt, Kd.agg, AV.cells, splice, places, fillAV, rowsFill, Hp.none, ↓reduceIte, reduceCtorEq, Nat.reduceLT, Nat.reduceEqDiff, Nat.reduceAdd, Nat.reduceLeDiff, Nat.reducePow, Nat.reduceMul, Yzz, Xzz, Yzy, tyW, encBr]
  refine aw_for L.length 3 (jrS A L) (fun _ _ => True) (fun i _ => rfl) () (St.wk_slots1 (by simp [lk]) (by simp [lk, joinL]) (fun t => rfl)) trivial (fun i _ hlt _ => ?_) (fun _ _ => ?_)
  · have i1 : (i : Int) < (L.length : Int) := by omega
    have ncast : ∀ n : Nat, (0 : Int) ≤ (n : Int) := Int.natCast_nonneg
    obtain ⟨x, hx⟩ : ∃ x, L[i]? = some x := ⟨_, List.getElem?_eq_getElem hlt⟩
    have gw := map_getD encR hx
    have er : encR x = [encS x] := rfl
    rw [er] at gw
    have hxm := List.mem_of_getElem? hx
    have e1 := joinL_len A (L.take i)
    have e2 : (joinL A (L.take i)).length ≤ 1000000000 := by rw [List.length_take] at e1; omega
    have e3 : ∀ y ∈ joinL A (L.take i), y.length ≤ 2000000000 := fun y hy => by
      rcases joinL_mem _ _ y hy with h | h
      · have := hA' y h; omega
      · have := hL y (List.mem_of_mem_take h); omega
    simp -implicitDefEqProofs only [awl, ne_eq, srcRows, awo, aggEq, eqF, litEq, andO, qwl, qwo, Go.Ab.qOp, lop, oneK, stepOp, pairO, pureOp, heapOp, entry, slotsOf, ev, evL, evP, evO, lk, up, St.put, St.drop, constAV, cellAV, cellsAV, plain, binV, nilCmp, intBin, strBin, guardBit, boolOf, fnOf, intOfAV, bound, resOf, retV, moved, rowOf, valAt, Kd.agg, AV.cells, splice, places, fillAV, rowsFill, Hp.none, ↓reduceIte, reduceCtorEq, Nat.reduceLT, Nat.reduceEqDiff, Nat.reduceAdd, Nat.reduceLeDiff, Nat.reducePow, Nat.reduceMul, Yzz, Xzz, Yzy, tyW, jrS, i1, decide_true, ncast, Int.toNat_natCast, gw, List.length_map]
    rw [joinL_next hx]
    have wp := with_spec x _ (by have := hL x hxm; omega) e2 e3
    generalize joinL A (L.take i) = B at wp ⊢
    refine aw_drawC (n := 21) (σ' := ⟨[(5, .lit (.int .i64 (i : Int))), (4, .ptr 2 0), (3, .ptr 1 0), (2, .ptr 0 0)], ⟨[(0, [.vec ((withL x B).map encR) false]), (1, [.vec (L.map encR) false]), (2, [.vec [] true])], [], 3⟩, 21⟩) 3 7 (.alt 7 .leaf .nil) rfl (by decide) (by decide) mixed (by kernel_rfl) (by decide) ?_ ?_
    · simp -implicitDefEqProofs only [awl, ne_eq, srcRows, awo, aggEq, eqF, litEq, andO, qwl, qwo, Go.Ab.qOp, lop, oneK, stepOp, pairO, pureOp, heapOp, entry, slotsOf, ev, evL, evP, evO, lk, up, St.put, St.drop, constAV, cellAV, cellsAV, plain, binV, nilCmp, intBin, strBin, guardBit, boolOf, fnOf, intOfAV, bound, resOf, retV, moved, rowOf, valAt, Kd.agg, AV.cells, splice, places, fillAV, rowsFill, Hp.none, ↓reduceIte, reduceCtorEq, Nat.reduceLT, Nat.reduceEqDiff, Nat.reduceAdd, Nat.reduceLeDiff, Nat.reducePow, Nat.reduceMul, Yzz, Xzz, Yzy, tyW, i1, ncast, Int.toNat_natCast, gw, List.length_map]
      refine CallQ_pure call49 wp (allc (pureBr B) (allc (pureS x) alln)) (pureBr _) ?_
      simp -implicitDefEqProofs only [awl, ne_eq, srcRows, awo, aggEq, eqF, litEq, andO, qwl, qwo, Go.Ab.qOp, lop, oneK, stepOp, pairO, pureOp, heapOp, entry, slotsOf, ev, evL, evP, evO, lk, up, St.put, St.drop, constAV, cellAV, cellsAV, plain, binV, nilCmp, intBin, strBin, guardBit, boolOf, fnOf, intOfAV, bound, resOf, retV, moved, rowOf, valAt, Kd.agg, AV.cells, splice, places, fillAV, rowsFill, Hp.none, ↓reduceIte, reduceCtorEq, Nat.reduceLT, Nat.reduceEqDiff, Nat.reduceAdd, Nat.reduceLeDiff, Nat.reducePow, Nat.reduceMul, Yzz, Xzz, Yzy, tyW, encBr]
      exact St.wk.cp (St.wk_slots1 (by simp [lk]) (by simp [lk]) (fun t => rfl))
    · simp -implicitDefEqProofs (disch := omega) only [awl, ne_eq, srcRows, awo, aggEq, eqF, litEq, andO, qwl, qwo, Go.Ab.qOp, lop, oneK, stepOp, pairO, pureOp, heapOp, entry, slotsOf, ev, evL, evP, evO, lk, up, St.put, St.drop, constAV, cellAV, cellsAV, plain, binV, nilCmp, intBin, strBin, guardBit, boolOf, fnOf, intOfAV, bound, resOf, retV, moved, rowOf, valAt, Kd.agg, AV.cells, splice, places, fillAV, rowsFill, Hp.none, ↓reduceIte, reduceCtorEq, Nat.reduceLT, Nat.reduceEqDiff, Nat.reduceAdd, Nat.reduceLeDiff, Nat.reducePow, Nat.reduceMul, Yzz, Xzz, Yzy, tyW, i64w]
      exact ⟨(), St.wk.cp (St.wk_slots (by simp [lk]))⟩
  · have i1 : ¬ (L.length : Int) < (L.length : Int) := by omega
    simp -implicitDefEqProofs only [awl, ne_eq, srcRows, awo, aggEq, eqF, litEq, andO, qwl, qwo, Go.Ab.qOp, lop, oneK, stepOp, pairO, pureOp, heapOp, entry, slotsOf, ev, evL, evP, evO, lk, up, St.put, St.drop, constAV, cellAV, cellsAV, plain, binV, nilCmp, intBin, strBin, guardBit, boolOf, fnOf, intOfAV, bound, resOf, retV, moved, rowOf, valAt, Kd.agg, AV.cells, splice, places, fillAV, rowsFill, Hp.none, ↓reduceIte, reduceCtorEq, Nat.reduceLT, Nat.reduceEqDiff, Nat.reduceAdd, Nat.reduceLeDiff, Nat.reducePow, Nat.reduceMul, Yzz, Xzz, Yzy, tyW, jrS, i1, decide_false, List.take_length, List.length_map]
    exact expo_pure (pureBr _)
theorem pushL_next {f : Int × Int} {L : List Sk} {i : Nat} {x : Sk} (h : L[i]? = some x) : pushL f (L.take (i + 1)) = withL (x ++ [f]) (pushL f (L.take i)) := by
  unfold pushL; rw [List.take_add_one, h, List.foldl_append]; rfl
theorem pushL_len (f : Int × Int) (L : List Sk) : (pushL f L).length ≤ L.length := by
  have : ∀ (L A : List Sk), (L.foldl (fun out x => withL (x ++ [f]) out) A).length ≤ A.length + L.length := by
    intro L
    induction L with
    | nil => simp
    | cons x l ih =>
      intro A
      have h1 := ih (withL (x ++ [f]) A)
      have h2 := withL_len (x ++ [f]) A
      simp only [List.foldl_cons, List.length_cons] at *
      omega
  have := this L []
  simpa [pushL] using this
theorem pushL_mem (f : Int × Int) (L : List Sk) : ∀ x ∈ pushL f L, ∃ y ∈ L, x = y ++ [f] := by
  have : ∀ (L A : List Sk), ∀ x ∈ L.foldl (fun out x => withL (x ++ [f]) out) A, x ∈ A ∨ ∃ y ∈ L, x = y ++ [f] := by
    intro L
    induction L with
    | nil => intro A x hx; exact .inl hx
    | cons y l ih =>
      intro A x hx
      rcases ih _ x hx with h | ⟨z, h1, h2⟩
      · rcases withL_mem _ A x h with rfl | h
        · exact .inr ⟨y, by simp, rfl⟩
        · exact .inl h
      · exact .inr ⟨z, by simp [h1], h2⟩
  intro x hx
  rcases this L [] x hx with h | h
  · cases h
  · exact h
theorem Push_r (L : List Sk) (f : Int × Int) (hl : L.length ≤ 1000000000) (hL : ∀ x ∈ L, x.length ≤ 1000000000) : PCall Try.prog 28 [encBr L, .agg (encP f)] (encBr (pushL f L)) := by
  refine PCall_intro Try.func28 rfl Try.ntmps28 (rs := [.cell 4 31]) rfl (by simp) ?_
  have ef : encP f = [.lit (.int .i64 f.1), .lit (.int .i64 f.2)] := rfl
  simp -implicitDefEqProofs only [awl, ne_eq, srcRows, awo, aggEq, eqF, litEq, andO, qwl, qwo, Go.Ab.qOp, lop, oneK, stepOp, pairO, pureOp, heapOp, entry, slotsOf, ev, evL, evP, evO, lk, up, St.put, St.drop, constAV, cellAV, cellsAV, plain, binV, nilCmp, intBin, strBin, guardBit, boolOf, fnOf, intOfAV, bound, resOf, retV, moved, rowOf, valAt, Kd.agg, AV.cells, splice, places, fillAV, rowsFill, Hp.none, ↓reduceIte, reduceCtorEq, Nat.reduceLT, Nat.reduceEqDiff, Nat.reduceAdd, Nat.reduceLeDiff, Nat.reducePow, Nat.reduceMul, Yzz, Xzz, Yzy, tyW, encBr, ef]
  refine aw_forE L.length 4 (fun i _ => psS f L i (pushL f (L.take i))) (fun _ (_ : Unit) => True) (Nat.le_refl _) () (St.wk.cp (St.wk_conv rfl rfl (fun g g' x => allc ⟨_, rfl, cv_refl x _⟩ (allc ⟨_, rfl, cv_refl x _⟩ (allc ⟨_, rfl, cv_refl x _⟩ (allc ⟨_, rfl, cv_refl x _⟩ (allc ⟨_, rfl, cv_refl x _⟩ alln)))))
    (fun g g' x => allc ⟨_, rfl, cvL_refl x _⟩ (allc ⟨_, rfl, cvL_refl x _⟩ (allc ⟨_, rfl, cvL_refl x _⟩ (allc ⟨_, rfl, cvL_cons (cv_full x _ _) cvL_nil⟩ alln)))) (fun g p hp => by cases hp))) trivial (fun i _ hlt _ => ?_) (fun _ _ => ?_)
  · have i1 : (i : Int) < (L.length : Int) := by omega
    have ncast : ∀ n : Nat, (0 : Int) ≤ (n : Int) := Int.natCast_nonneg
    obtain ⟨x, hx⟩ : ∃ x, L[i]? = some x := ⟨_, List.getElem?_eq_getElem hlt⟩
    have gw := map_getD encR hx
    have er : encR x = [.vec (x.map encP) false] := rfl
    rw [er] at gw
    have hxm := List.mem_of_getElem? hx
    have hxl := hL x hxm
    have e1 := pushL_len f (L.take i)
    have e2 : (pushL f (L.take i)).length ≤ 1000000000 := by rw [List.length_take] at e1; omega
    have e3 : ∀ y ∈ pushL f (L.take i), y.length ≤ 2000000000 := fun y hy => by
      obtain ⟨z, h1, rfl⟩ := pushL_mem _ _ y hy
      have := hL z (List.mem_of_mem_take h1)
      simp only [List.length_append, List.length_cons, List.length_nil]; omega
    rw [pushL_next hx]
    have wp := with_spec (x ++ [f]) _ (by simp only [List.length_append, List.length_cons, List.length_nil]; omega) e2 e3
    generalize pushL f (L.take i) = B at wp ⊢
    have hf1 : fits 1 16 := by decide
    have hf0 : fits 0 16 := by decide
    have hfx : fits x.length 16 := fits_of' (by omega) (by omega)
    have r2 : ∀ q ∈ x.map encP, q.length = 2 := fun q hq => by obtain ⟨v, _, rfl⟩ := List.mem_map.1 hq; rfl
    cases x with
    | nil =>
      simp -implicitDefEqProofs only [awl, ne_eq, srcRows, awo, aggEq, eqF, litEq, andO, qwl, qwo, Go.Ab.qOp, lop, oneK, stepOp, pairO, pureOp, heapOp, entry, slotsOf, ev, evL, evP, evO, lk, up, St.put, St.drop, constAV, cellAV, cellsAV, plain, binV, nilCmp, intBin, strBin, guardBit, boolOf, fnOf, intOfAV, bound, resOf, retV, moved, rowOf, valAt, Kd.agg, AV.cells, splice, places, fillAV, rowsFill, Hp.none, ↓reduceIte, reduceCtorEq, Nat.reduceLT, Nat.reduceEqDiff, Nat.reduceAdd, Nat.reduceLeDiff, Nat.reducePow, Nat.reduceMul, Yzz, Xzz, Yzy, tyW, psS, encP, i1, decide_true, ncast, Int.toNat_natCast, gw, List.length_map, List.mem_singleton, forall_eq, List.not_mem_nil, false_imp_iff, implies_true, hf1, hf0, List.length_nil, List.map_nil, eq_self, if_true]
      refine CallK.freeze (t := 4) (k := ⟨[encP f], 0, 2⟩) rfl (args1 := [encBr B, encS [f]]) (fun g g' x c => cvL_cons (cv_refl x _) (cvL_cons c cvL_nil)) ?_
      refine CallK_pure call49 wp (allc (pureBr B) (allc (pureS [f]) alln)) (pureBr _) ?_
      simp -implicitDefEqProofs (disch := omega) only [awl, ne_eq, srcRows, awo, aggEq, eqF, litEq, andO, qwl, qwo, Go.Ab.qOp, lop, oneK, stepOp, pairO, pureOp, heapOp, entry, slotsOf, ev, evL, evP, evO, lk, up, St.put, St.drop, constAV, cellAV, cellsAV, plain, binV, nilCmp, intBin, strBin, guardBit, boolOf, fnOf, intOfAV, bound, resOf, retV, moved, rowOf, valAt, Kd.agg, AV.cells, splice, places, fillAV, rowsFill, Hp.none, ↓reduceIte, reduceCtorEq, Nat.reduceLT, Nat.reduceEqDiff, Nat.reduceAdd, Nat.reduceLeDiff, Nat.reducePow, Nat.reduceMul, Yzz, Xzz, Yzy, tyW, encBr, i64w]
      exact ⟨(), cp_drop' (by show 4 ≤ 4; decide) (by show 4 ≤ 5; decide) rfl (allc ⟨rfl, .pure (.lit _)⟩ (allc ⟨rfl, .ptr (by show 3 < 4; decide) rfl⟩ (allc ⟨rfl, .ptr (by show 2 < 4; decide) rfl⟩ (allc ⟨rfl, .ptr (by show 1 < 4; decide) rfl⟩ (allc ⟨rfl, .ptr (by show 0 < 4; decide) rfl⟩ alln)))))
        (allc ⟨by show 0 < 4; decide, rfl, .pure (allc (.vec (pure_rows pureR L)) alln)⟩ (allc ⟨by show 1 < 4; decide, rfl, .pure (pure_encP f)⟩ (allc ⟨by show 2 < 4; decide, rfl, .pure (allc (.vec (by simp)) alln)⟩ (allc ⟨by show 3 < 4; decide, rfl, .pure (allc (.vec (pure_rows pureR _)) alln)⟩ alln)))) alln⟩
    | cons z y =>
      have h0 : ((y.length + 1 : Nat) = 0) = False := by simp
      have r3 : ∀ q ∈ encP z :: y.map encP, q.length = 2 := r2
      simp only [List.length_cons] at hfx hxl
      have hfy : fits (y.length + 1 + 1) 16 := fits_of' (by omega) (by omega)
      simp -implicitDefEqProofs only [awl, ne_eq, srcRows, awo, aggEq, eqF, litEq, andO, qwl, qwo, Go.Ab.qOp, lop, oneK, stepOp, pairO, pureOp, heapOp, entry, slotsOf, ev, evL, evP, evO, lk, up, St.put, St.drop, constAV, cellAV, cellsAV, plain, binV, nilCmp, intBin, strBin, guardBit, boolOf, fnOf, intOfAV, bound, resOf, retV, moved, rowOf, valAt, Kd.agg, AV.cells, splice, places, fillAV, rowsFill, Hp.none, ↓reduceIte, reduceCtorEq, Nat.reduceLT, Nat.reduceEqDiff, Nat.reduceAdd, Nat.reduceLeDiff, Nat.reducePow, Nat.reduceMul, Yzz, Xzz, Yzy, tyW, psS, ef, i1, decide_true, ncast, Int.toNat_natCast, gw, List.length_map, List.mem_singleton, forall_eq, List.not_mem_nil, false_imp_iff, implies_true, hf1, hfx, hfy, eq_true r3, h0, if_false, List.map_cons, List.length_append, List.length_cons, List.length_nil, List.cons_append]
      refine CallK.freeze (t := 4) (k := ⟨encP z :: (y.map encP ++ [encP f]), 0, 2⟩) ?_ (args1 := [encBr B, encS (z :: y ++ [f])]) (fun g g' x c => cvL_cons (cv_refl x _) (cvL_cons (by simpa [encS] using c) cvL_nil)) ?_
      · rfl
      refine CallK_pure call49 wp (allc (pureBr B) (allc (pureS _) alln)) (pureBr _) ?_
      simp -implicitDefEqProofs (disch := omega) only [awl, ne_eq, srcRows, awo, aggEq, eqF, litEq, andO, qwl, qwo, Go.Ab.qOp, lop, oneK, stepOp, pairO, pureOp, heapOp, entry, slotsOf, ev, evL, evP, evO, lk, up, St.put, St.drop, constAV, cellAV, cellsAV, plain, binV, nilCmp, intBin, strBin, guardBit, boolOf, fnOf, intOfAV, bound, resOf, retV, moved, rowOf, valAt, Kd.agg, AV.cells, splice, places, fillAV, rowsFill, Hp.none, ↓reduceIte, reduceCtorEq, Nat.reduceLT, Nat.reduceEqDiff, Nat.reduceAdd, Nat.reduceLeDiff, Nat.reducePow, Nat.reduceMul, Yzz, Xzz, Yzy, tyW, encBr, i64w]
      exact ⟨(), cp_drop' (by show 4 ≤ 4; decide) (by show 4 ≤ 5; decide) rfl (allc ⟨rfl, .pure (.lit _)⟩ (allc ⟨rfl, .ptr (by show 3 < 4; decide) rfl⟩ (allc ⟨rfl, .ptr (by show 2 < 4; decide) rfl⟩ (allc ⟨rfl, .ptr (by show 1 < 4; decide) rfl⟩ (allc ⟨rfl, .ptr (by show 0 < 4; decide) rfl⟩ alln)))))
        (allc ⟨by show 0 < 4; decide, rfl, .pure (allc (.vec (pure_rows pureR L)) alln)⟩ (allc ⟨by show 1 < 4; decide, rfl, .pure (pure_encP f)⟩ (allc ⟨by show 2 < 4; decide, rfl, .pure (allc (.vec (by simp)) alln)⟩ (allc ⟨by show 3 < 4; decide, rfl, .pure (allc (.vec (pure_rows pureR _)) alln)⟩ alln)))) alln⟩
  · have i1 : ¬ (L.length : Int) < (L.length : Int) := by omega
    simp -implicitDefEqProofs only [awl, ne_eq, srcRows, awo, aggEq, eqF, litEq, andO, qwl, qwo, Go.Ab.qOp, lop, oneK, stepOp, pairO, pureOp, heapOp, entry, slotsOf, ev, evL, evP, evO, lk, up, St.put, St.drop, constAV, cellAV, cellsAV, plain, binV, nilCmp, intBin, strBin, guardBit, boolOf, fnOf, intOfAV, bound, resOf, retV, moved, rowOf, valAt, Kd.agg, AV.cells, splice, places, fillAV, rowsFill, Hp.none, ↓reduceIte, reduceCtorEq, Nat.reduceLT, Nat.reduceEqDiff, Nat.reduceAdd, Nat.reduceLeDiff, Nat.reducePow, Nat.reduceMul, Yzz, Xzz, Yzy, tyW, psS, i1, decide_false, List.take_length, List.length_map]
    exact expo_pure (pureBr _)
end Go.Proofs.Ytfnmdmadaljjkaa
end

section
namespace Go.Proofs.Ytfnmdmadaljjkaa
open Go.Ab
set_option linter.unusedSimpArgs false
set_option linter.unusedVariables false
set_option maxRecDepth 20000
set_option maxHeartbeats 4000000

def belS (f : Int × Int) (x : Sk) (out : List Sk) : List Sk := if x.getLast? = some f then withL x.dropLast out else out
def belowL (f : Int × Int) (L : List Sk) : List Sk := L.foldl (fun out x => belS f x out) []
def blS (f : Int × Int) (L : List Sk) (i : Nat) (B : List Sk) : St :=
  ⟨[(6, .lit (.int .i64 (i : Int))), (5, .ptr 3 0), (4, .ptr 2 0), (3, .ptr 1 0), (2, .ptr 0 0)], ⟨[(0, [.vec (L.map encR) false]), (1, encP f), (2, [.vec [] true]), (3, [.vec (B.map encR) false])], [], 4⟩, 47⟩
theorem belowL_next {f : Int × Int} {L : List Sk} {i : Nat} {x : Sk} (h : L[i]? = some x) : belowL f (L.take (i + 1)) = belS f x (belowL f (L.take i)) := by
  unfold belowL; rw [List.take_add_one, h, List.foldl_append]; rfl
theorem belowL_len (f : Int × Int) (L : List Sk) : (belowL f L).length ≤ L.length := by
  have : ∀ (L A : List Sk), (L.foldl (fun out x => belS f x out) A).length ≤ A.length + L.length := by
    intro L
    induction L with
    | nil => simp
    | cons x l ih =>
      intro A
      have h1 := ih (belS f x A)
      have h2 : (belS f x A).length ≤ A.length + 1 := by
        unfold belS; split
        · exact withL_len _ _
        · omega
      simp only [List.foldl_cons, List.length_cons] at *
      omega
  have := this L []
  simpa [belowL] using this
theorem belowL_mem (f : Int × Int) (L : List Sk) : ∀ x ∈ belowL f L, x ++ [f] ∈ L := by
  have : ∀ (L A : List Sk), ∀ x ∈ L.foldl (fun out x => belS f x out) A, x ∈ A ∨ x ++ [f] ∈ L := by
    intro L
    induction L with
    | nil => intro A x hx; exact .inl hx
    | cons y l ih =>
      intro A x hx
      rcases ih _ x hx with h | h
      · simp only [belS] at h
        split at h
        · rename_i hy
          rcases withL_mem _ A x h with rfl | h
          · refine .inr ?_
            rw [List.mem_cons]
            obtain ⟨y', rfl⟩ : ∃ y', y = y' ++ [f] := by
              obtain ⟨z, w, rfl⟩ := List.eq_nil_or_concat y |>.resolve_left (fun e => by rw [e] at hy; simp at hy)
              simp at hy
              exact ⟨z, by rw [hy]; simp⟩
            exact .inl (by simp)
          · exact .inl h
        · exact .inl h
      · exact .inr (by simp [h])
  intro x hx
  rcases this L [] x hx with h | h
  · cases h
  · exact h
theorem Below_r (L : List Sk) (f : Int × Int) (hl : L.length ≤ 1000000000) (hL : ∀ x ∈ L, x.length ≤ 1000000000) : PCall Try.prog 30 [encBr L, .agg (encP f)] (encBr (belowL f L)) := by
  refine PCall_intro Try.func30 rfl Try.ntmps30 (rs := [.cell 4 31]) rfl (by simp) ?_
  have ef : encP f = [.lit (.int .i64 f.1), .lit (.int .i64 f.2)] := rfl
  simp -implicitDefEqProofs only [awl, ne_eq, srcRows, awo, aggEq, eqF, litEq, andO, qwl, qwo, Go.Ab.qOp, lop, oneK, stepOp, pairO, pureOp, heapOp, entry, slotsOf, ev, evL, evP, evO, lk, up, St.put, St.drop, constAV, cellAV, cellsAV, plain, binV, nilCmp, intBin, strBin, guardBit, boolOf, fnOf, intOfAV, bound, resOf, retV, moved, rowOf, valAt, Kd.agg, AV.cells, splice, places, fillAV, rowsFill, Hp.none, ↓reduceIte, reduceCtorEq, Nat.reduceLT, Nat.reduceEqDiff, Nat.reduceAdd, Nat.reduceLeDiff, Nat.reducePow, Nat.reduceMul, Yzz, Xzz, Yzy, tyW, encBr, ef]
  refine aw_forE L.length 4 (fun i _ => blS f L i (belowL f (L.take i))) (fun _ (_ : Unit) => True) (Nat.le_refl _) () (St.wk.cp (St.wk_conv rfl rfl (fun g g' x => allc ⟨_, rfl, cv_refl x _⟩ (allc ⟨_, rfl, cv_refl x _⟩ (allc ⟨_, rfl, cv_refl x _⟩ (allc ⟨_, rfl, cv_refl x _⟩ (allc ⟨_, rfl, cv_refl x _⟩ alln)))))
    (fun g g' x => allc ⟨_, rfl, cvL_refl x _⟩ (allc ⟨_, rfl, cvL_refl x _⟩ (allc ⟨_, rfl, cvL_refl x _⟩ (allc ⟨_, rfl, cvL_cons (cv_full x _ _) cvL_nil⟩ alln)))) (fun g p hp => by cases hp))) trivial (fun i _ hlt _ => ?_) (fun _ _ => ?_)
  · have i1 : (i : Int) < (L.length : Int) := by omega
    have ncast : ∀ n : Nat, (0 : Int) ≤ (n : Int) := Int.natCast_nonneg
    obtain ⟨x, hx⟩ : ∃ x, L[i]? = some x := ⟨_, List.getElem?_eq_getElem hlt⟩
    have gw := map_getD encR hx
    have er : encR x = [.vec (x.map encP) false] := rfl
    rw [er] at gw
    have hxm := List.mem_of_getElem? hx
    have hxl := hL x hxm
    have e1 := belowL_len f (L.take i)
    have e2 : (belowL f (L.take i)).length ≤ 1000000000 := by rw [List.length_take] at e1; omega
    have e3 : ∀ y ∈ belowL f (L.take i), y.length ≤ 2000000000 := fun y hy => by
      have h1 := belowL_mem _ _ y hy
      have := hL _ (List.mem_of_mem_take h1)
      simp only [List.length_append, List.length_cons, List.length_nil] at this; omega
    rw [belowL_next hx]
    have wp := with_spec x.dropLast _ (by rw [List.length_dropLast]; omega) e2 e3
    generalize belowL f (L.take i) = B at wp ⊢
    rcases List.eq_nil_or_concat x with rfl | ⟨y, z, rfl⟩
    · have hB : belS f [] B = B := by simp [belS]
      have z0 : (((0 : Nat) : Int) > 0) = False := by decide
      rw [hB]
      simp -implicitDefEqProofs only [awl, ne_eq, srcRows, awo, aggEq, eqF, litEq, andO, qwl, qwo, Go.Ab.qOp, lop, oneK, stepOp, pairO, pureOp, heapOp, entry, slotsOf, ev, evL, evP, evO, lk, up, St.put, St.drop, constAV, cellAV, cellsAV, plain, binV, nilCmp, intBin, strBin, guardBit, boolOf, fnOf, intOfAV, bound, resOf, retV, moved, rowOf, valAt, Kd.agg, AV.cells, splice, places, fillAV, rowsFill, Hp.none, ↓reduceIte, reduceCtorEq, Nat.reduceLT, Nat.reduceEqDiff, Nat.reduceAdd, Nat.reduceLeDiff, Nat.reducePow, Nat.reduceMul, Yzz, Xzz, Yzy, tyW, blS, ef, i1, decide_true, ncast, Int.toNat_natCast, gw, List.length_map, List.length_nil, z0, decide_false]
      refine aw_quietN (n := 47) rfl (by decide) mixed ?_
      simp -implicitDefEqProofs (disch := omega) only [awl, ne_eq, srcRows, awo, aggEq, eqF, litEq, andO, qwl, qwo, Go.Ab.qOp, lop, oneK, stepOp, pairO, pureOp, heapOp, entry, slotsOf, ev, evL, evP, evO, lk, up, St.put, St.drop, constAV, cellAV, cellsAV, plain, binV, nilCmp, intBin, strBin, guardBit, boolOf, fnOf, intOfAV, bound, resOf, retV, moved, rowOf, valAt, Kd.agg, AV.cells, splice, places, fillAV, rowsFill, Hp.none, ↓reduceIte, reduceCtorEq, Nat.reduceLT, Nat.reduceEqDiff, Nat.reduceAdd, Nat.reduceLeDiff, Nat.reducePow, Nat.reduceMul, Yzz, Xzz, Yzy, tyW, z0, decide_false, i64w]
      exact ⟨(), St.wk.cp (St.wk_slots (by simp [lk]))⟩
    · have z0 : (((y.length + 1 : Nat) : Int) > 0) = True := by simp
      have gz : ((y.map encP) ++ [encP z]).getD y.length [] = encP z := by simp
      have sub1 : IntKind.i64.wrap (((y.length + 1 : Nat) : Int) - 1) = (y.length : Int) := by rw [i64w (by omega) (by simp at hxl; omega)]; omega
      simp only [List.concat_eq_append] at *
      simp -implicitDefEqProofs only [awl, ne_eq, srcRows, awo, aggEq, eqF, litEq, andO, qwl, qwo, Go.Ab.qOp, lop, oneK, stepOp, pairO, pureOp, heapOp, entry, slotsOf, ev, evL, evP, evO, lk, up, St.put, St.drop, constAV, cellAV, cellsAV, plain, binV, nilCmp, intBin, strBin, guardBit, boolOf, fnOf, intOfAV, bound, resOf, retV, moved, rowOf, valAt, Kd.agg, AV.cells, splice, places, fillAV, rowsFill, Hp.none, ↓reduceIte, reduceCtorEq, Nat.reduceLT, Nat.reduceEqDiff, Nat.reduceAdd, Nat.reduceLeDiff, Nat.reducePow, Nat.reduceMul, Yzz, Xzz, Yzy, tyW, blS, ef, i1, decide_true, ncast, Int.toNat_natCast, gw, List.length_map, List.length_append, List.length_cons, List.length_nil, List.map_append, Nat.zero_add, z0]
      refine aw_quietN (n := 47) rfl (by decide) mixed ?_
      have y1 : (y.length : Int) < ((y.length + 1 : Nat) : Int) := by omega
      have ez : encP z = [.lit (.int .i64 z.1), .lit (.int .i64 z.2)] := rfl
      rw [ez] at gz
      simp -implicitDefEqProofs only [awl, ne_eq, srcRows, awo, aggEq, eqF, litEq, andO, qwl, qwo, Go.Ab.qOp, lop, oneK, stepOp, pairO, pureOp, heapOp, entry, slotsOf, ev, evL, evP, evO, lk, up, St.put, St.drop, constAV, cellAV, cellsAV, plain, binV, nilCmp, intBin, strBin, guardBit, boolOf, fnOf, intOfAV, bound, resOf, retV, moved, rowOf, valAt, Kd.agg, AV.cells, splice, places, fillAV, rowsFill, Hp.none, ↓reduceIte, reduceCtorEq, Nat.reduceLT, Nat.reduceEqDiff, Nat.reduceAdd, Nat.reduceLeDiff, Nat.reducePow, Nat.reduceMul, Yzz, Xzz, Yzy, tyW, z0, decide_true, i1, ncast, Int.toNat_natCast, gw, List.length_map, List.length_append, List.length_cons, List.length_nil, List.map_append, Nat.zero_add, sub1, y1, gz, ez]
      by_cases hz : z = f
      · subst hz
        have hB : belS z (y ++ [z]) B = withL y B := by simp [belS]
        have tk : List.take y.length (List.map encP y ++ [[AV.lit (.int .i64 z.1), AV.lit (.int .i64 z.2)]]) = List.map encP y := by
          rw [List.take_append_of_le_length (by simp), List.take_of_length_le (by simp)]
        have sl : sliceV 2 (List.map encP y ++ [[AV.lit (.int .i64 z.1), AV.lit (.int .i64 z.2)]]) false none (some (y.length : Int)) none = some (.vec (List.map encP y) false) := by
          have hr : ∀ q ∈ List.map encP y ++ [[AV.lit (.int .i64 z.1), AV.lit (.int .i64 z.2)]], q.length = 2 := fun q hq => by
            rcases List.mem_append.1 hq with h | h
            · obtain ⟨v, _, rfl⟩ := List.mem_map.1 h; rfl
            · rcases List.mem_singleton.1 h with rfl; rfl
          unfold sliceV
          rw [if_pos ⟨by simp, by simp, by simp; omega, by simp, by simp, hr⟩]
          have : ((some (y.length : Int)).getD ((List.map encP y ++ [[AV.lit (.int .i64 z.1), AV.lit (.int .i64 z.2)]]).length : Int)).toNat - ((none : Option Int).getD 0).toNat = y.length := by simp
          rw [this]
          show some (AV.vec (List.take y.length (List.drop 0 _)) _) = _
          rw [List.drop_zero, tk]
          rfl
        have hd : (y ++ [z]).dropLast = y := by simp
        have le1 : (y.length : Int) ≤ ((y.length + 1 : Nat) : Int) := by omega
        rw [hd] at wp
        rw [hB]
        simp -implicitDefEqProofs only [awl, ne_eq, srcRows, awo, aggEq, eqF, litEq, andO, qwl, qwo, Go.Ab.qOp, lop, oneK, stepOp, pairO, pureOp, heapOp, entry, slotsOf, ev, evL, evP, evO, lk, up, St.put, St.drop, constAV, cellAV, cellsAV, plain, binV, nilCmp, intBin, strBin, guardBit, boolOf, fnOf, intOfAV, bound, resOf, retV, moved, rowOf, valAt, Kd.agg, AV.cells, splice, places, fillAV, rowsFill, Hp.none, ↓reduceIte, reduceCtorEq, Nat.reduceLT, Nat.reduceEqDiff, Nat.reduceAdd, Nat.reduceLeDiff, Nat.reducePow, Nat.reduceMul, Yzz, Xzz, Yzy, tyW, beq_self_eq_true, Bool.and_self]
        refine aw_drawC (n := 47) (σ' := blS z L i (withL y B)) 4 10 (.alt 10 .leaf .nil) rfl (by decide) (by decide) mixed (by kernel_rfl) (by decide) ?_ ?_
        · simp -implicitDefEqProofs only [awl, ne_eq, srcRows, awo, aggEq, eqF, litEq, andO, qwl, qwo, Go.Ab.qOp, lop, oneK, stepOp, pairO, pureOp, heapOp, entry, slotsOf, ev, evL, evP, evO, lk, up, St.put, St.drop, constAV, cellAV, cellsAV, plain, binV, nilCmp, intBin, strBin, guardBit, boolOf, fnOf, intOfAV, bound, resOf, retV, moved, rowOf, valAt, Kd.agg, AV.cells, splice, places, fillAV, rowsFill, Hp.none, ↓reduceIte, reduceCtorEq, Nat.reduceLT, Nat.reduceEqDiff, Nat.reduceAdd, Nat.reduceLeDiff, Nat.reducePow, Nat.reduceMul, Yzz, Xzz, Yzy, tyW, i1, ncast, Int.toNat_natCast, gw, List.length_map, List.length_append, List.length_cons, List.length_nil, List.map_append, Nat.zero_add, sub1, ez, sl]
          refine CallQ_pure call49 wp (allc (pureBr B) (allc (pureS y) alln)) (pureBr _) ?_
          simp -implicitDefEqProofs only [awl, ne_eq, srcRows, awo, aggEq, eqF, litEq, andO, qwl, qwo, Go.Ab.qOp, lop, oneK, stepOp, pairO, pureOp, heapOp, entry, slotsOf, ev, evL, evP, evO, lk, up, St.put, St.drop, constAV, cellAV, cellsAV, plain, binV, nilCmp, intBin, strBin, guardBit, boolOf, fnOf, intOfAV, bound, resOf, retV, moved, rowOf, valAt, Kd.agg, AV.cells, splice, places, fillAV, rowsFill, Hp.none, ↓reduceIte, reduceCtorEq, Nat.reduceLT, Nat.reduceEqDiff, Nat.reduceAdd, Nat.reduceLeDiff, Nat.reducePow, Nat.reduceMul, Yzz, Xzz, Yzy, tyW, encBr]
          exact St.wk.cp (St.wk_slots1 (by simp [lk]) (by simp [lk, encP]) (fun t => rfl))
        · simp -implicitDefEqProofs (disch := omega) only [awl, ne_eq, srcRows, awo, aggEq, eqF, litEq, andO, qwl, qwo, Go.Ab.qOp, lop, oneK, stepOp, pairO, pureOp, heapOp, entry, slotsOf, ev, evL, evP, evO, lk, up, St.put, St.drop, constAV, cellAV, cellsAV, plain, binV, nilCmp, intBin, strBin, guardBit, boolOf, fnOf, intOfAV, bound, resOf, retV, moved, rowOf, valAt, Kd.agg, AV.cells, splice, places, fillAV, rowsFill, Hp.none, ↓reduceIte, reduceCtorEq, Nat.reduceLT, Nat.reduceEqDiff, Nat.reduceAdd, Nat.reduceLeDiff, Nat.reducePow, Nat.reduceMul, Yzz, Xzz, Yzy, tyW, blS, ef, i64w]
          exact ⟨(), St.wk.cp (St.wk_slots (by simp [lk]))⟩
      · have hB : belS f (y ++ [z]) B = B := by simp [belS, hz]
        have hzf : (z.fst == f.fst && (z.snd == f.snd && true)) = false := by
          cases h : (z.fst == f.fst && (z.snd == f.snd && true))
          · rfl
          · refine absurd ?_ hz
            simp at h
            exact Prod.ext h.1 h.2
        rw [hB]
        simp -implicitDefEqProofs (disch := omega) only [awl, ne_eq, srcRows, awo, aggEq, eqF, litEq, andO, qwl, qwo, Go.Ab.qOp, lop, oneK, stepOp, pairO, pureOp, heapOp, entry, slotsOf, ev, evL, evP, evO, lk, up, St.put, St.drop, constAV, cellAV, cellsAV, plain, binV, nilCmp, intBin, strBin, guardBit, boolOf, fnOf, intOfAV, bound, resOf, retV, moved, rowOf, valAt, Kd.agg, AV.cells, splice, places, fillAV, rowsFill, Hp.none, ↓reduceIte, reduceCtorEq, Nat.reduceLT, Nat.reduceEqDiff, Nat.reduceAdd, Nat.reduceLeDiff, Nat.reducePow, Nat.reduceMul, Yzz, Xzz, Yzy, tyW, hzf, i64w]
        exact ⟨(), St.wk.cp (St.wk_slots (by simp [lk]))⟩
  · have i1 : ¬ (L.length : Int) < (L.length : Int) := by omega
    simp -implicitDefEqProofs only [awl, ne_eq, srcRows, awo, aggEq, eqF, litEq, andO, qwl, qwo, Go.Ab.qOp, lop, oneK, stepOp, pairO, pureOp, heapOp, entry, slotsOf, ev, evL, evP, evO, lk, up, St.put, St.drop, constAV, cellAV, cellsAV, plain, binV, nilCmp, intBin, strBin, guardBit, boolOf, fnOf, intOfAV, bound, resOf, retV, moved, rowOf, valAt, Kd.agg, AV.cells, splice, places, fillAV, rowsFill, Hp.none, ↓reduceIte, reduceCtorEq, Nat.reduceLT, Nat.reduceEqDiff, Nat.reduceAdd, Nat.reduceLeDiff, Nat.reducePow, Nat.reduceMul, Yzz, Xzz, Yzy, tyW, blS, i1, decide_false, List.take_length, List.length_map]
    exact expo_pure (pureBr _)
end Go.Proofs.Ytfnmdmadaljjkaa
end
