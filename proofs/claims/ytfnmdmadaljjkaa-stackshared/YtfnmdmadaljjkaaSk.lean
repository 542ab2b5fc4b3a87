/- StackShared: a set that doubles: what it holds. Conditions: those that each theorem names. What is read of acts, of frames, of lists of them. Conditions: those that each theorem names. StackShared answers true for any number and frames, and these read as they did: the given statement. Conditions: none. -/
import Derived.Test.YtfnmdmadaljjkaaXzz
import Derived.Test.YtfnmdmadaljjkaaSj
import Derived.Test.YtfnmdmadaljjkaaSh
import Derived.Test.YtfnmdmadaljjkaaSe
import Derived.Test.YtfnmdmadaljjkaaLaw
import Derived.JoinedOf
import Derived.Handed
section
namespace Go.Proofs.Ytfnmdmadaljjkaa
open Go.Ab
set_option linter.unusedSimpArgs false
set_option linter.unusedVariables false
set_option maxRecDepth 20000
set_option maxHeartbeats 4000000

def shO (f g : Int × Int) : Nat → Option Tr
  | 0 => emptyO
  | k + 1 => comb (pushO f.1 f.2 (shO f g k)) (pushO g.1 g.2 (shO f g k))
theorem comb_two {f g : Int × Int} (h : f ≠ g) (t : Tr) : comb (pushO f.1 f.2 (some t)) (pushO g.1 g.2 (some t)) = some (.mk false [.mk f.1 f.2 t, .mk g.1 g.2 t]) ∨ comb (pushO f.1 f.2 (some t)) (pushO g.1 g.2 (some t)) = some (.mk false [.mk g.1 g.2 t, .mk f.1 f.2 t]) := by
  simp only [comb, pushO]
  rw [joinTr_mk, joinWs_cons]
  have h1 := @cmpW_lt (.mk f.1 f.2 t) (.mk g.1 g.2 t)
  have h2 := @cmpW_gt (.mk f.1 f.2 t) (.mk g.1 g.2 t)
  unfold ltW at h1 h2
  simp only [Wy.s, Wy.l] at h1 h2
  by_cases q1 : cmpW (.mk f.1 f.2 t) (.mk g.1 g.2 t) < 0
  · rw [if_pos q1, joinWs_nil_left]; exact .inl rfl
  · by_cases q2 : cmpW (.mk f.1 f.2 t) (.mk g.1 g.2 t) > 0
    · rw [if_neg q1, if_pos q2, joinWs_nil_right]
      exact .inr rfl
    · exfalso
      have h1' : ¬ _ := fun q => q1 (h1.2 q)
      have h2' : ¬ _ := fun q => q2 (h2.2 q)
      apply h
      obtain ⟨a, b⟩ := f; obtain ⟨c, d⟩ := g
      simp only at h1' h2'
      simp only [Prod.mk.injEq]
      omega
structure ShOk (f g : Int × Int) (k : Nat) (t : Tr) : Prop where
  eq : shO f g k = some t
  wf : Wf t
  bd : Bnd 2 t
  cnt : ∀ top : Sk, (stkT t top).length = 2 ^ k
  len : ∀ (top s : Sk), s ∈ stkT t top → s.length = top.length + k
  top : t.ws.length = if k = 0 then 0 else 2
theorem shO_ok {f g : Int × Int} (h : f ≠ g) : ∀ k, ∃ t, ShOk f g k t
  | 0 => ⟨.mk true [], rfl, .mk trivial (by simp) (.inl rfl), .mk (by simp) (by simp), fun top => by simp [stkT, stkWs], fun top s hs => by
      simp only [stkT, stkWs, if_true, List.append_nil, List.mem_singleton] at hs
      rw [hs]; simp, rfl⟩
  | k + 1 => by
    obtain ⟨t, e, wf, bd, cnt, len, top⟩ := shO_ok h k
    have hw : WfO (shO f g (k + 1)) := by
      unfold shO
      rw [e]
      exact (WfO.push (.some wf)).comb (WfO.push (.some wf))
    have main : ∀ p q : Int × Int, shO f g (k + 1) = some (.mk false [.mk p.1 p.2 t, .mk q.1 q.2 t]) → ∃ t, ShOk f g (k + 1) t := fun p q hq => by
      refine ⟨_, hq, hw _ hq, .mk (by simp) (fun w hm => ?_), fun top => ?_, fun top s hs => ?_, rfl⟩
      · simp only [List.mem_cons, List.not_mem_nil, or_false] at hm
        rcases hm with rfl | rfl <;> exact bd
      · simp only [stkT, stkWs, stkW, Bool.false_eq_true, if_false, List.nil_append, List.append_nil, List.length_append, cnt]
        omega
      · simp only [stkT, stkWs, stkW, Bool.false_eq_true, if_false, List.nil_append, List.append_nil, List.mem_append] at hs
        rcases hs with hs | hs
        · have := len _ s hs; simp at this; omega
        · have := len _ s hs; simp at this; omega
    have e2 : shO f g (k + 1) = comb (pushO f.1 f.2 (some t)) (pushO g.1 g.2 (some t)) := by unfold shO; rw [e]
    rcases comb_two h t with q | q
    · exact main f g (e2.trans q)
    · exact main g f (e2.trans q)
def shS (f g : Int × Int) (N : Nat) (k : Nat) (_ : Unit) : St :=
  ⟨[(19, .lit (.int .i64 (k : Int))), (18, .lit (.int .i64 (N : Int))), (7, .ptr 2 0), (4, .ptr 0 0), (5, .ptr 1 0), (0, .lit (.int .i64 (N : Int)))], ⟨[(0, [.lit (.int .i64 f.1), .lit (.int .i64 f.2)]), (1, [.lit (.int .i64 g.1), .lit (.int .i64 g.2)]), (2, [encO (shO f g k)])], [], 3⟩, 70⟩
theorem shared_spec (n : Int) (f g : Int × Int) : KCall Try.prog 5 [.lit (.int .i64 n), .agg [.lit (.int .i64 f.1), .lit (.int .i64 f.2)], .agg [.lit (.int .i64 g.1), .lit (.int .i64 g.2)]] (.lit (.bool true)) := by
  refine KCall_of (SCall_intro Try.func5 rfl Try.ntmps5 (rs := [.tmp 6]) rfl (by simp) ?_)
  simp -implicitDefEqProofs only [awl, ne_eq, srcRows, awo, aggEq, eqF, litEq, andO, qwl, qwo, Go.Ab.qOp, lop, oneK, stepOp, pairO, pureOp, heapOp, entry, slotsOf, ev, evL, evP, evO, lk, up, St.put, St.drop, constAV, cellAV, cellsAV, plain, binV, nilCmp, intBin, strBin, guardBit, boolOf, fnOf, intOfAV, bound, resOf, retV, moved, rowOf, valAt, Kd.agg, AV.cells, splice, places, fillAV, rowsFill, Hp.none, ↓reduceIte, reduceCtorEq, Nat.reduceLT, Nat.reduceEqDiff, Nat.reduceAdd, Nat.reduceLeDiff, Nat.reducePow, Nat.reduceMul, Yzz, Xzz, Yzy, tyW]
  refine CallK_pure call19 (brought_spec n 41 (by decide) (by decide)) (allc (.lit _) (allc (.lit _) alln)) (.lit _) ?_
  have m0 : 0 ≤ n.emod 41 := Int.emod_nonneg _ (by decide)
  have m1 : n.emod 41 < 41 := Int.emod_lt_of_pos _ (by decide)
  obtain ⟨N, hN⟩ : ∃ N : Nat, n.emod 41 = (N : Int) := ⟨(n.emod 41).toNat, by omega⟩
  rw [hN]
  have hN40 : N ≤ 40 := by omega
  clear hN m0 m1
  simp -implicitDefEqProofs only [awl, ne_eq, srcRows, awo, aggEq, eqF, litEq, andO, qwl, qwo, Go.Ab.qOp, lop, oneK, stepOp, pairO, pureOp, heapOp, entry, slotsOf, ev, evL, evP, evO, lk, up, St.put, St.drop, constAV, cellAV, cellsAV, plain, binV, nilCmp, intBin, strBin, guardBit, boolOf, fnOf, intOfAV, bound, resOf, retV, moved, rowOf, valAt, Kd.agg, AV.cells, splice, places, fillAV, rowsFill, Hp.none, ↓reduceIte, reduceCtorEq, Nat.reduceLT, Nat.reduceEqDiff, Nat.reduceAdd, Nat.reduceLeDiff, Nat.reducePow, Nat.reduceMul, Yzz, Xzz, Yzy, tyW]
  by_cases hfg : f = g
  · have eq1 : (f.1 == g.1) = true := by rw [hfg]; simp
    have eq2 : (f.2 == g.2) = true := by rw [hfg]; simp
    simp -implicitDefEqProofs only [awl, ne_eq, srcRows, awo, aggEq, eqF, litEq, andO, qwl, qwo, Go.Ab.qOp, lop, oneK, stepOp, pairO, pureOp, heapOp, entry, slotsOf, ev, evL, evP, evO, lk, up, St.put, St.drop, constAV, cellAV, cellsAV, plain, binV, nilCmp, intBin, strBin, guardBit, boolOf, fnOf, intOfAV, bound, resOf, retV, moved, rowOf, valAt, Kd.agg, AV.cells, splice, places, fillAV, rowsFill, Hp.none, ↓reduceIte, reduceCtorEq, Nat.reduceLT, Nat.reduceEqDiff, Nat.reduceAdd, Nat.reduceLeDiff, Nat.reducePow, Nat.reduceMul, Yzz, Xzz, Yzy, tyW, eq1, eq2, Bool.and_self]
    refine CallK_k call18 wakes_spec alln (.lit _) ?_
    simp -implicitDefEqProofs only [awl, ne_eq, srcRows, awo, aggEq, eqF, litEq, andO, qwl, qwo, Go.Ab.qOp, lop, oneK, stepOp, pairO, pureOp, heapOp, entry, slotsOf, ev, evL, evP, evO, lk, up, St.put, St.drop, constAV, cellAV, cellsAV, plain, binV, nilCmp, intBin, strBin, guardBit, boolOf, fnOf, intOfAV, bound, resOf, retV, moved, rowOf, valAt, Kd.agg, AV.cells, splice, places, fillAV, rowsFill, Hp.none, ↓reduceIte, reduceCtorEq, Nat.reduceLT, Nat.reduceEqDiff, Nat.reduceAdd, Nat.reduceLeDiff, Nat.reducePow, Nat.reduceMul, Yzz, Xzz, Yzy, tyW]
    exact kexpo (.lit _)
  have eq0 : (f.1 == g.1 && (f.2 == g.2 && true)) = false := by
    obtain ⟨a, b⟩ := f; obtain ⟨c, d⟩ := g
    simp only [Prod.mk.injEq, not_and] at hfg
    simp only [Bool.and_true, Bool.and_eq_false_iff, beq_eq_false_iff_ne]
    by_cases h : a = c
    · exact .inr (hfg h)
    · exact .inl h
  have G := gp_encB
  have two : ∀ {x y : Option Tr}, ∀ v ∈ [encB x, encB y], GP v := fun {x y} => allc (gp_encB x) (allc (gp_encB y) alln)
  have oneF : ∀ {x : Option Tr} {f : Int × Int}, ∀ v ∈ [encB x, .agg [.lit (.int .i64 f.1), .lit (.int .i64 f.2)]], GP v := fun {x f} => allc (G x) (allc (.of_pure (.agg (allc (.lit _) (allc (.lit _) alln)))) alln)
  simp -implicitDefEqProofs only [awl, ne_eq, srcRows, awo, aggEq, eqF, litEq, andO, qwl, qwo, Go.Ab.qOp, lop, oneK, stepOp, pairO, pureOp, heapOp, entry, slotsOf, ev, evL, evP, evO, lk, up, St.put, St.drop, constAV, cellAV, cellsAV, plain, binV, nilCmp, intBin, strBin, guardBit, boolOf, fnOf, intOfAV, bound, resOf, retV, moved, rowOf, valAt, Kd.agg, AV.cells, splice, places, fillAV, rowsFill, Hp.none, ↓reduceIte, reduceCtorEq, Nat.reduceLT, Nat.reduceEqDiff, Nat.reduceAdd, Nat.reduceLeDiff, Nat.reducePow, Nat.reduceMul, Yzz, Xzz, Yzy, tyW, eq0]
  refine CallK_k call24 Empty_spec alln (G emptyO) ?_
  simp -implicitDefEqProofs only [awl, ne_eq, srcRows, awo, aggEq, eqF, litEq, andO, qwl, qwo, Go.Ab.qOp, lop, oneK, stepOp, pairO, pureOp, heapOp, entry, slotsOf, ev, evL, evP, evO, lk, up, St.put, St.drop, constAV, cellAV, cellsAV, plain, binV, nilCmp, intBin, strBin, guardBit, boolOf, fnOf, intOfAV, bound, resOf, retV, moved, rowOf, valAt, Kd.agg, AV.cells, splice, places, fillAV, rowsFill, Hp.none, ↓reduceIte, reduceCtorEq, Nat.reduceLT, Nat.reduceEqDiff, Nat.reduceAdd, Nat.reduceLeDiff, Nat.reducePow, Nat.reduceMul, Yzz, Xzz, Yzy, tyW, encB]
  refine aw_forE N 3 (shS f g N) (fun _ _ => True) (Nat.le_refl _) () ?_ trivial (fun k _ hlt _ => ?_) (fun _ _ => ?_)
  · refine St.wk.cp (St.wk_slots1 ?_ ?_ (fun t => rfl))
    · simp [lk, shS]
    · simp [lk, shS, shO, emptyO]
  · have i1 : (k : Int) < (N : Int) := by omega
    obtain ⟨t, e, wf, bd, _, _, _⟩ := shO_ok hfg k
    have wb : WfO (shO f g k) := by rw [e]; exact .some wf
    have nb : BndO 2 (shO f g k) := by rw [e]; intro u hu; cases hu; exact bd
    have pf := Push_spec (shO f g k) f.1 f.2
    have pg := Push_spec (shO f g k) g.1 g.2
    have jw := Join_spec 2 2 (by decide) _ _ (wb.push (s := f.1) (l := f.2)) (wb.push (s := g.1) (l := g.2)) (Bnd.push (s := f.1) (l := f.2) nb (by decide)) (Bnd.push (s := g.1) (l := g.2) nb (by decide))
    rw [show comb (pushO f.1 f.2 (shO f g k)) (pushO g.1 g.2 (shO f g k)) = shO f g (k + 1) from rfl] at jw
    unfold shS
    generalize shO f g (k + 1) = o2 at jw ⊢
    generalize shO f g k = o at jw pf pg ⊢
    simp -implicitDefEqProofs only [awl, ne_eq, srcRows, awo, aggEq, eqF, litEq, andO, qwl, qwo, Go.Ab.qOp, lop, oneK, stepOp, pairO, pureOp, heapOp, entry, slotsOf, ev, evL, evP, evO, lk, up, St.put, St.drop, constAV, cellAV, cellsAV, plain, binV, nilCmp, intBin, strBin, guardBit, boolOf, fnOf, intOfAV, bound, resOf, retV, moved, rowOf, valAt, Kd.agg, AV.cells, splice, places, fillAV, rowsFill, Hp.none, ↓reduceIte, reduceCtorEq, Nat.reduceLT, Nat.reduceEqDiff, Nat.reduceAdd, Nat.reduceLeDiff, Nat.reducePow, Nat.reduceMul, Yzz, Xzz, Yzy, tyW, i1, decide_true]
    refine aw_drawC (n := 70) (σ' := ⟨[(19, .lit (.int .i64 (k : Int))), (18, .lit (.int .i64 (N : Int))), (7, .ptr 2 0), (4, .ptr 0 0), (5, .ptr 1 0), (0, .lit (.int .i64 (N : Int)))], ⟨[(0, [.lit (.int .i64 f.1), .lit (.int .i64 f.2)]), (1, [.lit (.int .i64 g.1), .lit (.int .i64 g.2)]), (2, [encO o2])], [], 3⟩, 70⟩) 3 7 (.alt 7 .leaf .nil) rfl (by decide) (by decide) mixed (by kernel_rfl) (by decide) ?_ ?_
    · simp -implicitDefEqProofs only [awl, ne_eq, srcRows, awo, aggEq, eqF, litEq, andO, qwl, qwo, Go.Ab.qOp, lop, oneK, stepOp, pairO, pureOp, heapOp, entry, slotsOf, ev, evL, evP, evO, lk, up, St.put, St.drop, constAV, cellAV, cellsAV, plain, binV, nilCmp, intBin, strBin, guardBit, boolOf, fnOf, intOfAV, bound, resOf, retV, moved, rowOf, valAt, Kd.agg, AV.cells, splice, places, fillAV, rowsFill, Hp.none, ↓reduceIte, reduceCtorEq, Nat.reduceLT, Nat.reduceEqDiff, Nat.reduceAdd, Nat.reduceLeDiff, Nat.reducePow, Nat.reduceMul, Yzz, Xzz, Yzy, tyW]
      refine CallQ_k call22 pf oneF (G _) ?_
      simp -implicitDefEqProofs only [awl, ne_eq, srcRows, awo, aggEq, eqF, litEq, andO, qwl, qwo, Go.Ab.qOp, lop, oneK, stepOp, pairO, pureOp, heapOp, entry, slotsOf, ev, evL, evP, evO, lk, up, St.put, St.drop, constAV, cellAV, cellsAV, plain, binV, nilCmp, intBin, strBin, guardBit, boolOf, fnOf, intOfAV, bound, resOf, retV, moved, rowOf, valAt, Kd.agg, AV.cells, splice, places, fillAV, rowsFill, Hp.none, ↓reduceIte, reduceCtorEq, Nat.reduceLT, Nat.reduceEqDiff, Nat.reduceAdd, Nat.reduceLeDiff, Nat.reducePow, Nat.reduceMul, Yzz, Xzz, Yzy, tyW, encB]
      refine CallQ_k call22 pg oneF (G _) ?_
      simp -implicitDefEqProofs only [awl, ne_eq, srcRows, awo, aggEq, eqF, litEq, andO, qwl, qwo, Go.Ab.qOp, lop, oneK, stepOp, pairO, pureOp, heapOp, entry, slotsOf, ev, evL, evP, evO, lk, up, St.put, St.drop, constAV, cellAV, cellsAV, plain, binV, nilCmp, intBin, strBin, guardBit, boolOf, fnOf, intOfAV, bound, resOf, retV, moved, rowOf, valAt, Kd.agg, AV.cells, splice, places, fillAV, rowsFill, Hp.none, ↓reduceIte, reduceCtorEq, Nat.reduceLT, Nat.reduceEqDiff, Nat.reduceAdd, Nat.reduceLeDiff, Nat.reducePow, Nat.reduceMul, Yzz, Xzz, Yzy, tyW, encB]
      refine CallQ_k call20 jw two (G _) ?_
      simp -implicitDefEqProofs only [awl, ne_eq, srcRows, awo, aggEq, eqF, litEq, andO, qwl, qwo, Go.Ab.qOp, lop, oneK, stepOp, pairO, pureOp, heapOp, entry, slotsOf, ev, evL, evP, evO, lk, up, St.put, St.drop, constAV, cellAV, cellsAV, plain, binV, nilCmp, intBin, strBin, guardBit, boolOf, fnOf, intOfAV, bound, resOf, retV, moved, rowOf, valAt, Kd.agg, AV.cells, splice, places, fillAV, rowsFill, Hp.none, ↓reduceIte, reduceCtorEq, Nat.reduceLT, Nat.reduceEqDiff, Nat.reduceAdd, Nat.reduceLeDiff, Nat.reducePow, Nat.reduceMul, Yzz, Xzz, Yzy, tyW, encB]
      refine St.wk.cp (St.wk_slots1 ?_ ?_ (fun t => rfl))
      · simp [lk]
      · simp [lk]
    · simp -implicitDefEqProofs (disch := omega) only [awl, ne_eq, srcRows, awo, aggEq, eqF, litEq, andO, qwl, qwo, Go.Ab.qOp, lop, oneK, stepOp, pairO, pureOp, heapOp, entry, slotsOf, ev, evL, evP, evO, lk, up, St.put, St.drop, constAV, cellAV, cellsAV, plain, binV, nilCmp, intBin, strBin, guardBit, boolOf, fnOf, intOfAV, bound, resOf, retV, moved, rowOf, valAt, Kd.agg, AV.cells, splice, places, fillAV, rowsFill, Hp.none, ↓reduceIte, reduceCtorEq, Nat.reduceLT, Nat.reduceEqDiff, Nat.reduceAdd, Nat.reduceLeDiff, Nat.reducePow, Nat.reduceMul, Yzz, Xzz, Yzy, tyW, i64w]
      exact ⟨(), St.wk.cp (St.wk_slots (by simp [lk]))⟩
  have i1 : ¬ (N : Int) < (N : Int) := by omega
  obtain ⟨t, e, wf, bd, cnt, len, top⟩ := shO_ok hfg N
  simp -implicitDefEqProofs only [awl, ne_eq, srcRows, awo, aggEq, eqF, litEq, andO, qwl, qwo, Go.Ab.qOp, lop, oneK, stepOp, pairO, pureOp, heapOp, entry, slotsOf, ev, evL, evP, evO, lk, up, St.put, St.drop, constAV, cellAV, cellsAV, plain, binV, nilCmp, intBin, strBin, guardBit, boolOf, fnOf, intOfAV, bound, resOf, retV, moved, rowOf, valAt, Kd.agg, AV.cells, splice, places, fillAV, rowsFill, Hp.none, ↓reduceIte, reduceCtorEq, Nat.reduceLT, Nat.reduceEqDiff, Nat.reduceAdd, Nat.reduceLeDiff, Nat.reducePow, Nat.reduceMul, Yzz, Xzz, Yzy, tyW, shS, i1, decide_false, e]
  have hcnt : cntO (some t) = min ((2 ^ N : Nat) : Int) 1073741824 := by rw [cntO_len]; show min ((stkT t []).length : Int) _ = _; rw [cnt]
  have hall := All_spec 2 (by decide) (some t) (.some wf) (fun u hu => by cases hu; exact bd) 1000 (fun s hs => by have := len [] s hs; simp at this; omega)
  have hR : ∃ X, allR (some t) 1000 = .tup [.vec X false, .lit (.int .i64 (if (2 ^ N : Nat) > 1000 then 3 else 0))] := by
    unfold allR
    rw [hcnt]
    by_cases q : (2 ^ N : Nat) > 1000
    · rw [if_pos q, if_pos (by omega)]; exact ⟨[], rfl⟩
    · rw [if_neg q, if_neg (by omega)]; exact ⟨_, rfl⟩
  obtain ⟨X, hX⟩ := hR
  have gX : GP (.tup [.vec X false, .lit (.int .i64 (if (2 ^ N : Nat) > 1000 then 3 else 0))]) := hX ▸ gp_allR (some t) 1000
  rw [hX] at hall
  refine CallK_k call7 hall (allc (G _) (allc (.lit _) alln)) gX ?_
  have hcw : cntO (some t) > 1000 ↔ (2 ^ N : Nat) > 1000 := by rw [hcnt]; omega
  have eqE : ((decide (cntO (some t) > 1000)) == (((if (2 ^ N : Nat) > 1000 then (3 : Int) else 0)) == 3)) = true := by
    by_cases q : (2 ^ N : Nat) > 1000
    · rw [if_pos q, decide_eq_true (hcw.2 q)]; rfl
    · rw [if_neg q, decide_eq_false (fun h => q (hcw.1 h))]; rfl
  have nbt : BndO 2 (some t) := fun u hu => by cases hu; exact bd
  have hsize := Size_spec 2 (by decide) (some t) nbt
  have htops := Tops_spec 2 (by decide) (some t) nbt
  have gtops : GP (.vec ((topsO (some t)).map enc2) false) := .of_pure (.vec (pure_rows pure_enc2 _))
  have jw := Join_spec 2 2 (by decide) (some t) (some t) (.some wf) (.some wf) nbt nbt
  rw [comb_idem (.some wf)] at jw
  have sm := Same_spec 2 (by decide) (some t) (some t) true (by simp) nbt nbt
  by_cases h30 : N < 30
  case' pos =>
    have c30 : ((N : Int) < 30) = True := by simp; omega
    have u1 : IntKind.u64.wrap (N : Int) = (N : Int) := by simp [IntKind.wrap, IntKind.bits, IntKind.signed]; omega
    have u2 : ((N : Int) < 0) = False := by simp
    have u3 : IntKind.i64.wrap (1 * 2 ^ min N IntKind.i64.bits) = cntO (some t) := by
      have b1 : (2 : Nat) ^ N ≤ 2 ^ 29 := Nat.pow_le_pow_right (by decide) (by omega)
      have b2 : ((2 : Int) ^ N) = ((2 ^ N : Nat) : Int) := by simp
      rw [show min N IntKind.i64.bits = N from Nat.min_eq_left (by show N ≤ 64; omega), Int.one_mul, b2, hcnt]
      generalize (2 ^ N : Nat) = P at b1
      rw [i64w (by omega) (by omega)]
      omega
    simp -implicitDefEqProofs only [awl, ne_eq, srcRows, awo, aggEq, eqF, litEq, andO, qwl, qwo, Go.Ab.qOp, lop, oneK, stepOp, pairO, pureOp, heapOp, entry, slotsOf, ev, evL, evP, evO, lk, up, St.put, St.drop, constAV, cellAV, cellsAV, plain, binV, nilCmp, intBin, strBin, guardBit, boolOf, fnOf, intOfAV, bound, resOf, retV, moved, rowOf, valAt, Kd.agg, AV.cells, splice, places, fillAV, rowsFill, Hp.none, ↓reduceIte, reduceCtorEq, Nat.reduceLT, Nat.reduceEqDiff, Nat.reduceAdd, Nat.reduceLeDiff, Nat.reducePow, Nat.reduceMul, Yzz, Xzz, Yzy, tyW, c30, decide_true, u1, u2, if_false, Int.toNat_natCast, u3]
  case' neg =>
    have c30 : ((N : Int) < 30) = False := by simp; omega
    have u3 : (1073741824 : Int) = cntO (some t) := by
      have b1 : (2 : Nat) ^ 30 ≤ 2 ^ N := Nat.pow_le_pow_right (by decide) (by omega)
      rw [hcnt]; omega
    simp -implicitDefEqProofs only [awl, ne_eq, srcRows, awo, aggEq, eqF, litEq, andO, qwl, qwo, Go.Ab.qOp, lop, oneK, stepOp, pairO, pureOp, heapOp, entry, slotsOf, ev, evL, evP, evO, lk, up, St.put, St.drop, constAV, cellAV, cellsAV, plain, binV, nilCmp, intBin, strBin, guardBit, boolOf, fnOf, intOfAV, bound, resOf, retV, moved, rowOf, valAt, Kd.agg, AV.cells, splice, places, fillAV, rowsFill, Hp.none, ↓reduceIte, reduceCtorEq, Nat.reduceLT, Nat.reduceEqDiff, Nat.reduceAdd, Nat.reduceLeDiff, Nat.reducePow, Nat.reduceMul, Yzz, Xzz, Yzy, tyW, c30, decide_false]
    rw [u3]
  all_goals
    refine aw_wk (σ' := ⟨[(0, .lit (.int .i64 (N : Int))), (7, .ptr 2 0), (9, .lit (.int .i64 (if (2 ^ N : Nat) > 1000 then 3 else 0))), (10, .lit (.int .i64 (cntO (some t))))], ⟨[(2, [encO (some t)])], [], 3⟩, 70⟩) (St.wk_slots1 (by simp [lk]) (by simp [lk]) (fun t => rfl)) ?_
    have eqS : (cntO (some t) == cntO (some t)) = true := by simp
    generalize (if (2 ^ N : Nat) > 1000 then (3 : Int) else 0) = E at eqE ⊢
    refine aw_quietN (n := 70) rfl (by decide) mixed ?_
    simp -implicitDefEqProofs only [awl, ne_eq, srcRows, awo, aggEq, eqF, litEq, andO, qwl, qwo, Go.Ab.qOp, lop, oneK, stepOp, pairO, pureOp, heapOp, entry, slotsOf, ev, evL, evP, evO, lk, up, St.put, St.drop, constAV, cellAV, cellsAV, plain, binV, nilCmp, intBin, strBin, guardBit, boolOf, fnOf, intOfAV, bound, resOf, retV, moved, rowOf, valAt, Kd.agg, AV.cells, splice, places, fillAV, rowsFill, Hp.none, ↓reduceIte, reduceCtorEq, Nat.reduceLT, Nat.reduceEqDiff, Nat.reduceAdd, Nat.reduceLeDiff, Nat.reducePow, Nat.reduceMul, Yzz, Xzz, Yzy, tyW]
    refine CallQ_k call9 hsize (allc (G _) alln) (.lit _) ?_
    by_cases h0 : N = 0
    case' pos =>
      have n0 : ((N : Int) == 0) = true := by rw [h0]; rfl
      simp -implicitDefEqProofs only [awl, ne_eq, srcRows, awo, aggEq, eqF, litEq, andO, qwl, qwo, Go.Ab.qOp, lop, oneK, stepOp, pairO, pureOp, heapOp, entry, slotsOf, ev, evL, evP, evO, lk, up, St.put, St.drop, constAV, cellAV, cellsAV, plain, binV, nilCmp, intBin, strBin, guardBit, boolOf, fnOf, intOfAV, bound, resOf, retV, moved, rowOf, valAt, Kd.agg, AV.cells, splice, places, fillAV, rowsFill, Hp.none, ↓reduceIte, reduceCtorEq, Nat.reduceLT, Nat.reduceEqDiff, Nat.reduceAdd, Nat.reduceLeDiff, Nat.reducePow, Nat.reduceMul, Yzz, Xzz, Yzy, tyW, eqS, eqE, n0]
    case' neg =>
      have n0 : ((N : Int) == 0) = false := by simpa using h0
      have t2 : ((topsO (some t)).length : Int) = 2 := by show ((t.ws.length : Nat) : Int) = 2; rw [top, if_neg h0]; rfl
      have t3 : ((2 : Int) == 2) = true := rfl
      simp -implicitDefEqProofs only [awl, ne_eq, srcRows, awo, aggEq, eqF, litEq, andO, qwl, qwo, Go.Ab.qOp, lop, oneK, stepOp, pairO, pureOp, heapOp, entry, slotsOf, ev, evL, evP, evO, lk, up, St.put, St.drop, constAV, cellAV, cellsAV, plain, binV, nilCmp, intBin, strBin, guardBit, boolOf, fnOf, intOfAV, bound, resOf, retV, moved, rowOf, valAt, Kd.agg, AV.cells, splice, places, fillAV, rowsFill, Hp.none, ↓reduceIte, reduceCtorEq, Nat.reduceLT, Nat.reduceEqDiff, Nat.reduceAdd, Nat.reduceLeDiff, Nat.reducePow, Nat.reduceMul, Yzz, Xzz, Yzy, tyW, eqS, eqE, n0]
      refine CallQ_k call14 htops (allc (G _) alln) gtops ?_
      simp -implicitDefEqProofs only [awl, ne_eq, srcRows, awo, aggEq, eqF, litEq, andO, qwl, qwo, Go.Ab.qOp, lop, oneK, stepOp, pairO, pureOp, heapOp, entry, slotsOf, ev, evL, evP, evO, lk, up, St.put, St.drop, constAV, cellAV, cellsAV, plain, binV, nilCmp, intBin, strBin, guardBit, boolOf, fnOf, intOfAV, bound, resOf, retV, moved, rowOf, valAt, Kd.agg, AV.cells, splice, places, fillAV, rowsFill, Hp.none, ↓reduceIte, reduceCtorEq, Nat.reduceLT, Nat.reduceEqDiff, Nat.reduceAdd, Nat.reduceLeDiff, Nat.reducePow, Nat.reduceMul, Yzz, Xzz, Yzy, tyW, List.length_map, t2, t3]
    all_goals
      refine CallQ_k call20 jw two (G _) ?_
      simp -implicitDefEqProofs only [awl, ne_eq, srcRows, awo, aggEq, eqF, litEq, andO, qwl, qwo, Go.Ab.qOp, lop, oneK, stepOp, pairO, pureOp, heapOp, entry, slotsOf, ev, evL, evP, evO, lk, up, St.put, St.drop, constAV, cellAV, cellsAV, plain, binV, nilCmp, intBin, strBin, guardBit, boolOf, fnOf, intOfAV, bound, resOf, retV, moved, rowOf, valAt, Kd.agg, AV.cells, splice, places, fillAV, rowsFill, Hp.none, ↓reduceIte, reduceCtorEq, Nat.reduceLT, Nat.reduceEqDiff, Nat.reduceAdd, Nat.reduceLeDiff, Nat.reducePow, Nat.reduceMul, Yzz, Xzz, Yzy, tyW, encB]
      refine CallQ_k call16 sm two (.lit _) ?_
      simp -implicitDefEqProofs only [awl, ne_eq, srcRows, awo, aggEq, eqF, litEq, andO, qwl, qwo, Go.Ab.qOp, lop, oneK, stepOp, pairO, pureOp, heapOp, entry, slotsOf, ev, evL, evP, evO, lk, up, St.put, St.drop, constAV, cellAV, cellsAV, plain, binV, nilCmp, intBin, strBin, guardBit, boolOf, fnOf, intOfAV, bound, resOf, retV, moved, rowOf, valAt, Kd.agg, AV.cells, splice, places, fillAV, rowsFill, Hp.none, ↓reduceIte, reduceCtorEq, Nat.reduceLT, Nat.reduceEqDiff, Nat.reduceAdd, Nat.reduceLeDiff, Nat.reducePow, Nat.reduceMul, Yzz, Xzz, Yzy, tyW, encB]
      refine CallQ_k call18 wakes_spec alln (.lit _) ?_
      simp -implicitDefEqProofs only [awl, ne_eq, srcRows, awo, aggEq, eqF, litEq, andO, qwl, qwo, Go.Ab.qOp, lop, oneK, stepOp, pairO, pureOp, heapOp, entry, slotsOf, ev, evL, evP, evO, lk, up, St.put, St.drop, constAV, cellAV, cellsAV, plain, binV, nilCmp, intBin, strBin, guardBit, boolOf, fnOf, intOfAV, bound, resOf, retV, moved, rowOf, valAt, Kd.agg, AV.cells, splice, places, fillAV, rowsFill, Hp.none, ↓reduceIte, reduceCtorEq, Nat.reduceLT, Nat.reduceEqDiff, Nat.reduceAdd, Nat.reduceLeDiff, Nat.reducePow, Nat.reduceMul, Yzz, Xzz, Yzy, tyW]
      exact kexpo (.lit _)
end Go.Proofs.Ytfnmdmadaljjkaa
end

section
namespace Go.Proofs.Ytfnmdmadaljjkaa
open Go Go.Ab
set_option linter.unusedSimpArgs false
set_option linter.unusedVariables false
set_option maxRecDepth 20000


section
variable {H : Type} {en : TypeId × Value → H} {W : World}
theorem Rd.slice' {n : Nat} {t e : TypeId} {ti te : TI} (h : tyOf Try.prog t = some ti) (hk : ti.kd = .sl e) (he : tyOf Try.prog e = some te) (hpos : 0 < te.size) {T : Type} {f : T → List AV} {sz : T → Nat}
    (hE : ∀ k, k < n → Rd en Try.prog W k e (fun av m => ∃ t : T, av = f t ∧ sz t ≤ m)) :
    Rd en Try.prog W n t (fun av m => ∃ l : List T, av = [.vec (l.map f) false] ∧ (l.map sz).sum + 1 ≤ m ∧ l.length + 1 ≤ m) := by
  cases n with
  | zero => exact .zero
  | succ n =>
    refine (Rd.slice h hk he hpos (hE n (Nat.lt_succ_self n))).mono ?_
    rintro av m ⟨l, rfl, h1, h2, _⟩
    obtain ⟨ts, h3, h4⟩ := rows_of (f := f) (sz := sz) (fun a m h => h) l (fun p hp => (h1 p hp).1)
    have hl : l.length = ts.length := by have := congrArg List.length h3; simpa using this
    have h5 : l.length ≤ (l.map (·.2)).sum := by
      have : ∀ l : List (List AV × Nat), (∀ p ∈ l, 1 ≤ p.2) → l.length ≤ (l.map (·.2)).sum := by
        intro l
        induction l with
        | nil => intro _; simp
        | cons x l ih => intro hh; have := ih (fun p hp => hh p (by simp [hp])); have := hh x (by simp); simp only [List.length_cons, List.map_cons, List.sum_cons]; omega
      exact this l (fun p hp => (h1 p hp).2.1)
    exact ⟨ts, by rw [h3], by omega, by omega⟩
theorem Rd.struct' {n : Nat} {t : TypeId} {ti : TI} (h : tyOf Try.prog t = some ti) {fs : List (Nat × TypeId)} (hk : ti.kd = .st fs) {E : List AV → Nat → Prop} (hE : ∀ k, k < n → RdFs en Try.prog W k ti.size fs 0 E) :
    Rd en Try.prog W n t (fun av m => ∃ q, E av q ∧ q + 1 = m) := by
  cases n with
  | zero => exact .zero
  | succ n => exact .struct h hk (hE n (Nat.lt_succ_self n))

theorem rd_fr (n : Nat) : Rd en Try.prog W n 47 (fun av m => ∃ t : Int × Int, av = encP t ∧ 1 ≤ m) := by
  refine (Rd.struct' ty47 rfl fun k hk => .cons ty3 (.int ty3 rfl) (.cons ty3 (.int ty3 rfl) (.nil (by decide)))).mono ?_
  rintro av m ⟨q, h, rfl⟩
  obtain ⟨_, _, _, _, rfl, ⟨z1, _, rfl⟩, h, rfl⟩ := h
  obtain ⟨_, _, _, _, rfl, ⟨z2, _, rfl⟩, rfl, rfl⟩ := h
  exact ⟨(z1, z2), rfl, by omega⟩
theorem rd_frs (n : Nat) : Rd en Try.prog W n 23 (fun av m => ∃ l : Sk, av = [.vec (l.map encP) false] ∧ (l.map fun _ => 1).sum + 1 ≤ m ∧ l.length + 1 ≤ m) :=
  .slice' ty23 rfl ty47 (by decide) (f := encP) (sz := fun _ => 1) fun j _ => rd_fr j
theorem rd_act (n : Nat) : Rd en Try.prog W n 57 (fun av m => ∃ t : Ac, av = encAc t ∧ 1 ≤ m) := by
  refine (Rd.struct' ty57 rfl fun k hk => .cons ty3 (.int ty3 rfl) (.cons ty3 (.int ty3 rfl) (.cons ty3 (.int ty3 rfl) (.cons ty47 (rd_fr k) (.cons ty23 (rd_frs k) (.nil (by decide))))))).mono ?_
  rintro av m ⟨q, h, rfl⟩
  obtain ⟨_, _, _, _, rfl, ⟨z1, _, rfl⟩, h, rfl⟩ := h
  obtain ⟨_, _, _, _, rfl, ⟨z2, _, rfl⟩, h, rfl⟩ := h
  obtain ⟨_, _, _, _, rfl, ⟨z3, _, rfl⟩, h, rfl⟩ := h
  obtain ⟨_, _, _, _, rfl, ⟨f, rfl, _⟩, h, rfl⟩ := h
  obtain ⟨_, _, _, _, rfl, ⟨l, rfl, _, _⟩, rfl, rfl⟩ := h
  exact ⟨⟨z1, z2, z3, f, l⟩, rfl, by omega⟩
theorem rd_acts (n : Nat) : Rd en Try.prog W n 22 (fun av m => ∃ l : List Ac, av = [.vec (l.map encAc) false] ∧ (l.map fun _ => 1).sum + 1 ≤ m ∧ l.length + 1 ≤ m) :=
  .slice' ty22 rfl ty57 (by decide) (f := encAc) (sz := fun _ => 1) fun j _ => rd_act j
end
end Go.Proofs.Ytfnmdmadaljjkaa
end

section
namespace Go.Proofs.Ytfnmdmadaljjkaa
open Go Go.Ab Go.RowKit Go.ChangeShapes
set_option linter.unusedSimpArgs false
set_option linter.unusedVariables false
set_option maxRecDepth 20000

theorem contractShared (H : Type) (en : TypeId × Value → H) (W : World) (base : Nat) (args : Array Value) (ds gs : List (DataW H)) (before : List MemPlace)
    (hval : ∀ (j : Nat) t v, Try.f5.params[j]? = some t → args[j]? = some v → Value.okWide Try.prog W .any base t v)
    (hW : DataW.Whole en Try.prog Try.f5.params.toList Rows.stackSharedSpec.vars false W args.toList ds gs before) :
    Calls Try.prog 5 args W fun e W' => ∃ v, e = .returned v ∧ Rows.stackSharedSpec.post en Try.prog Try.f5 false true false false W args v W' := by
  have hW' := hW
  obtain ⟨p, q, hA, hV, rfl, hfz, hnd⟩ := hW
  have hA : DataW.TrodAll en Try.prog W 0 (fun _ => true) true Try.f5.params.toList args.toList ds p := hA
  rw [Try.params5] at hA
  obtain ⟨v0, vs0, d0, ds0, p0, q0, hargs, rfl, rfl, _, r0⟩ := trodAll_cons hA
  obtain ⟨v1, vs1, d1, ds1, p1, q1, rfl, rfl, rfl, ⟨n1, h1⟩, r1⟩ := trodAll_cons r0
  obtain ⟨v2, vs2, d2, ds2, p2, q2, rfl, rfl, rfl, ⟨n2, k1⟩, r2⟩ := trodAll_cons r1
  obtain ⟨rfl, rfl, rfl⟩ := trodAll_nil r2
  obtain rfl : args = #[v0, v1, v2] := Array.toList_inj.1 hargs
  obtain ⟨rfl, rfl⟩ := trodVars_none hV
  obtain ⟨i, rfl⟩ := Go.WideShapes.okWide_int (k := .i64) (by kernel_rfl) (hval 0 3 v0 (by kernel_rfl) rfl)
  obtain ⟨g1, av1, g2, f, rfl, _⟩ := rd_fr n1 _ _ _ h1
  obtain ⟨j1, av2, j2, g, rfl, _⟩ := rd_fr n2 _ _ _ k1
  have e2 : ∀ f, (encP f).length = 2 := fun _ => rfl
  have hlen := g2.1
  rw [e2] at hlen
  obtain ⟨cs, rfl⟩ : ∃ cs, v1 = .agg cs := by
    cases v1 <;> simp [Value.cells] at hlen
    exact ⟨_, rfl⟩
  have hrep1 : Rep (gm (memOf W)) (.agg cs) (.agg (encP f)) := .agg g1 g2.1 g2.2
  have hlen2 := j2.1
  rw [e2] at hlen2
  obtain ⟨cs2, rfl⟩ : ∃ cs, v2 = .agg cs := by
    cases v2 <;> simp [Value.cells] at hlen2
    exact ⟨_, rfl⟩
  have hrep2 : Rep (gm (memOf W)) (.agg cs2) (.agg (encP g)) := .agg j1 j2.1 j2.2
  have hc : PCall Try.prog 5 [.lit (.int .i64 i), .agg [.lit (.int .i64 f.1), .lit (.int .i64 f.2)], .agg [.lit (.int .i64 g.1), .lit (.int .i64 g.2)]] (.lit (.bool true)) :=
    PCall_of_SCall (SCall.mono (shared_spec i f g) fun r' h' e => by obtain ⟨e1, e2⟩ := e; subst e1; subst e2; exact expo_pure (.lit _))
  refine (hc (memOf W) W #[.int .i64 i, .agg cs, .agg cs2] (memOk_of W) (.cons (.lit rfl) (.cons hrep1 (.cons hrep2 .nil)))).mono fun e W' hh => ?_
  obtain ⟨v, m', rfl, hv, _, hkeep, _, _⟩ := hh
  cases hv
  exact ⟨_, rfl, law_post hW' rfl rfl (by kernel_rfl) (by kernel_rfl) (by kernel_rfl) (tb := 4) (by kernel_rfl) hkeep⟩

theorem own : ownKnob Try.prog.godebug = none := by kernel_rfl

set_option maxRecDepth 100000 in
theorem liftedShared (os : Os) (started : os.Started) (H : Type) (en : TypeId × Value → H) :
    ReturnsInHanded {} Try.checked os 5 .any (Rows.stackSharedSpec.pre6 en Try.prog Try.f5 Rows.stackSharedRow.domain false) (Rows.stackSharedSpec.post en Try.prog Try.f5 false true false false) := by
  refine returnsInHanded_of_change (C := Try.checked) own started (by kernel_rfl) Try.func5
    (ChangeSpec.witness6 (enc := en) (C := Try.checked) false ⟨#[], #[.int .i64 0, .agg #[.int .i64 0, .int .i64 0], .agg #[.int .i64 0, .int .i64 0]], []⟩ 8 (by kernel_rfl) (by kernel_rfl) (by kernel_rfl) (by kernel_rfl)) ?_
  intro W base args ds gs before hval hW _ _
  exact contractShared H en W base args ds gs before hval hW

theorem stackShared_proved : Rows.StackSharedSaid :=
  OpenClaim.holds_of_wide 5 Try.f5 rfl rfl rfl rfl rfl rfl rfl ⟨rfl, rfl, rfl, rfl, rfl⟩ rfl rfl rfl rfl rfl (by kernel_rfl) Try.func5 (by kernel_rfl)
    (of_decide_eq_true (by kernel_rfl)) (by unfold Func.isWrapper; first | (rw [if_pos (by decide +kernel)]; kernel_rfl) | (rw [if_neg (by decide +kernel)]; exact ⟨rfl, rfl⟩))
    (fun os started H en _ => liftedShared os started H en)
#print axioms stackShared_proved
end Go.Proofs.Ytfnmdmadaljjkaa
end
