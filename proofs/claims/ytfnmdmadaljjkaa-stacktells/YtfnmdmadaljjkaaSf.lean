/- Contracts: how many stacks; whether a stack is there. Conditions: those that each theorem names. Contracts: rows cloned, turned round. Conditions: those that each theorem names. Contract: all stacks of a set, one behind the other: the call in any heap. Conditions: those that each theorem names. Contract: all stacks of a set, one behind the other. Conditions: those that each theorem names. -/
import Derived.Test.YtfnmdmadaljjkaaXzz
import Derived.Test.YtfnmdmadaljjkaaSe
import Derived.Test.YtfnmdmadaljjkaaSc
import Derived.Test.YtfnmdmadaljjkaaSd
import Derived.Test.YtfnmdmadaljjkaaDrawH
section
namespace Go.Proofs.Ytfnmdmadaljjkaa
open Go.Ab
set_option linter.unusedSimpArgs false
set_option linter.unusedVariables false
set_option maxRecDepth 20000
set_option maxHeartbeats 4000000

theorem cinv2 {kb va : AV} (h : cinv 2 kb va) : isP kb := by
  obtain ⟨t, rfl, _⟩ := h
  exact isP_encT t
/-- A cache is asked, and whether it holds the key. -/
theorem stepK_lookup2 {P : Program} {σ : St} {K : St → Prop} {d : Option Tmp} {t t2 kt et : TypeId} {x y : Operand} {pos : String} {af : Array Edge} {gu : Option (Nat × Bool)} {tag : Nat} {ka za : AV} {zv : Value} {S : AV → Prop}
    (hm : P.underlying t = some (.map kt et)) (hk : KeyOk P kt S) (hS : ∀ kb va, cinv tag kb va → S kb) (hz : (P.info? et).bind (·.zero) = some zv) (hzr : ∀ g, Rep g zv za)
    (hx : Ab.ev σ x = some (.mp tag)) (hy : Ab.ev σ y = some ka) (ha : S ka) (h0 : K (σ.put d (.tup [za, .lit (.bool false)]))) (h1 : ∀ kb va, cinv tag kb va → SameV ka kb → K (σ.put d (.tup [va, .lit (.bool true)]))) :
    stepK P ⟨d, .lookup t x y true, t2, pos, af, gu⟩ none K σ := by
  intro g0 h0' w0 g w a Q r
  have tup : ∀ {g : Gh} {v : Value} {q : Bool} {b : AV}, Rep g v b → Rep g (.tuple #[v, .bool q]) (.tup [b, .lit (.bool q)]) := fun {g v q b} hv => by
    refine .tup rfl (fun i c c' e1 e2 => ?_)
    match i, e1, e2 with
    | 0, e1, e2 => simp at e1 e2; subst e1; subst e2; exact hv
    | 1, e1, e2 => simp at e1 e2; subst e1; subst e2; exact .lit rfl
    | i + 2, e1, e2 => simp at e1
  have hu := r.ev hy
  have hmv := r.ev hx
  obtain ⟨b, hb, hc⟩ : ∃ b, a.eval x = .map (some b) ∧ g.cch b = some (tag + 1) := by
    generalize a.eval x = u at hmv
    cases hmv with | mp h => exact ⟨_, rfl, h⟩
  obtain ⟨es, k, e1, e2⟩ := r.st.hp.cch b tag hc
  obtain ⟨q, f1, f2⟩ := run_findKey' hk r.st.hp ha hu es.toList (fun e he => by
    obtain ⟨kb, va, c1, c2, c3⟩ := e2 e he
    exact ⟨kb, hS kb va c1, c2.mono (Ext.gc_up g)⟩)
  have ck := hk.chk g _ w _ ka es.isEmpty r.st.hp ha hu
  obtain ⟨i, i1, z1⟩ := Option.bind_eq_some_iff.1 hz
  rcases f2 with rfl | ⟨j, e, rfl, g1, g2⟩
  · have he : (execOp a.eval ⟨d, .lookup t x y true, t2, pos, af, gu⟩).run P w = .ok (.value (.tuple #[zv, .bool false])) w := by
      simp [execOp, Instr.lookup, run_underlying hm, hb, Go.MapKept.run_getObj_map e1, ck, f1, zeroValue, typeInfo, i1, z1]
    unfold Oper.wp
    rw [he]
    exact ⟨_, g, h0, r.put d (tup (hzr g))⟩
  · obtain ⟨kb, va, c1, c2, c3⟩ := e2 e (by simpa using List.mem_of_getElem? g1)
    have he : (execOp a.eval ⟨d, .lookup t x y true, t2, pos, af, gu⟩).run P w = .ok (.value (.tuple #[e.val, .bool true])) w := by
      simp [execOp, Instr.lookup, run_underlying hm, hb, Go.MapKept.run_getObj_map e1, ck, f1]
    unfold Oper.wp
    rw [he]
    exact ⟨_, g, h1 kb va c1 ⟨g, a.eval y, hu, by rw [← g2]; exact c2.mono (Ext.gc_up g)⟩, r.put d (tup (c3.mono (Ext.gc_up g)))⟩
def szH : Hp := ⟨[(0, [.mp 2]), (1, [.fn (.func 40) [] [.ptr 0 0, .ptr 1 0]])], [], 2⟩
theorem tyCount : tyOf Try.prog 76 = some { kd := .oth, size := 1, bytes := 8, zero := some [.lit .nilFunc] } := by kernel_rfl
def cntS (b : Bool) (ws : List Wy) (i : Nat) (_ : Unit) : St :=
  ⟨[(29, .lit (.int .i64 (i : Int))), (28, .lit (.int .i64 (ws.length : Int))), (27, .vec (ws.map encW) false), (7, .lit (.int .i64 (cntWs (if b then 1 else 0) (ws.take i)))), (0, encT (.mk b ws)), (1, .ptr 0 0), (2, .ptr 1 0)], szH, 45⟩
theorem cntWs_snoc : ∀ (l : List Wy) (k : Int) (w : Wy), cntWs k (l ++ [w]) = min (cntWs k l + cntW w) 1073741824
  | [], k, w => by simp [cntWs]
  | v :: l, k, w => by simp only [List.cons_append, cntWs]; exact cntWs_snoc l _ w
theorem cntW_t (w : Wy) : cntW w = cntT w.t := by cases w; simp [cntW, Wy.t]
theorem cnt_le : ∀ (n : Nat) (t : Tr), szT t ≤ n → 0 ≤ cntT t ∧ cntT t ≤ 1073741824
  | 0, t, h => by have := szT_pos t; omega
  | n + 1, .mk b ws, h => by
    rw [szT_eq] at h
    have ih : ∀ w ∈ ws, 0 ≤ cntW w ∧ cntW w ≤ 1073741824 := fun w hw => by
      rw [cntW_t]; exact cnt_le n w.t (by have := szWs_mem hw; omega)
    have key : ∀ (l : List Wy) (k : Int), (∀ w ∈ l, 0 ≤ cntW w ∧ cntW w ≤ 1073741824) → 0 ≤ k → k ≤ 1073741824 → 0 ≤ cntWs k l ∧ cntWs k l ≤ 1073741824 := by
      intro l
      induction l with
      | nil => intro k _ h1 h2; simp only [cntWs]; exact ⟨h1, h2⟩
      | cons w l il =>
        intro k hw h1 h2
        simp only [cntWs]
        have := hw w (by simp)
        exact il _ (fun v hv => hw v (by simp [hv])) (by omega) (by omega)
    simp only [cntT]
    exact key ws _ ih (by cases b <;> simp) (by cases b <;> simp)
theorem szH_own : Own szH := ⟨allc ⟨by show 0 < 2; decide, .cons (GP.mp 2).rn .nil⟩ (allc ⟨by show 1 < 2; decide, .cons (.fn .nil (.cons (.ptr (by show 0 < 2; decide) rfl) (.cons (.ptr (by show 1 < 2; decide) rfl) .nil))) .nil⟩ alln), alln⟩
theorem count_at {a : AV} {r : Value} (ga : GP a) (hc : QCall Try.prog 40 [a, .ptr 0 0, .ptr 1 0] szH (.lit r)) {H : Hp} {i j : Nat} (hij : i ≠ j) (hi : i < H.nx) (hj : j < H.nx) (h0 : lk H.boxes i = some [.mp 2])
    (h1 : lk H.boxes j = some [.fn (.func 40) [] [.ptr i 0, .ptr j 0]]) (t0 : lk H.toks i = none) (t1 : lk H.toks j = none) : QCall Try.prog 40 [a, .ptr i 0, .ptr j 0] H (.lit r) := by
  refine QCall.sub (hs := szH) (r0 := .lit r) (av := [a, .ptr 0 0, .ptr 1 0]) [i, j] rfl (by simpa using hij) (by simp; omega) (.cons ga.rn (.cons (.ptr (by show 0 < 2; decide) rfl) (.cons (.ptr (by show 1 < 2; decide) rfl) .nil)))
    (allc ⟨by show 0 < 2; decide, _, h0, .cons (GP.mp 2).rn .nil⟩ (allc ⟨by show 1 < 2; decide, _, h1, .cons (.fn .nil (.cons (.ptr (by show 0 < 2; decide) rfl) (.cons (.ptr (by show 1 < 2; decide) rfl) .nil))) .nil⟩ alln)) alln ?_ hc (.pure (.lit _))
  intro k hk _
  have hk : k < 2 := hk
  match k, hk with
  | 0, _ => exact t0
  | 1, _ => exact t1
theorem count_nil : QCall Try.prog 40 [.lit (.pointer none), .ptr 0 0, .ptr 1 0] szH (.lit (.int .i64 0)) := by
  refine SCall_introC Try.func40 rfl Try.ntmps40 (rs := [.tmp 4]) rfl (by simp) (N := 2) rfl ?_
  simp -implicitDefEqProofs only [awl, ne_eq, srcRows, awo, aggEq, eqF, litEq, andO, qwl, qwo, Go.Ab.qOp, lop, oneK, stepOp, pairO, pureOp, heapOp, entry, slotsOf, ev, evL, evP, evO, lk, up, St.put, St.drop, constAV, cellAV, cellsAV, plain, binV, nilCmp, intBin, strBin, guardBit, boolOf, fnOf, intOfAV, bound, resOf, retV, moved, rowOf, valAt, Kd.agg, AV.cells, splice, places, fillAV, rowsFill, Hp.none, ↓reduceIte, reduceCtorEq, Nat.reduceLT, Nat.reduceEqDiff, Nat.reduceAdd, Nat.reduceLeDiff, Nat.reducePow, Nat.reduceMul, Yzz, Xzz, Yzy, tyW, szH]
  exact ret1 4 szH_own rfl (by show 2 ≤ 2; decide) rfl (.pure (.lit _)) (allc rfl (allc rfl alln)) alln
theorem countC (b : Bool) (ws : List Wy) (hl : ws.length ≤ 2000000000)
    (ih : ∀ w ∈ ws, QCall Try.prog 40 [encT w.t, .ptr 0 0, .ptr 1 0] szH (.lit (.int .i64 (cntT w.t)))) :
    QCall Try.prog 40 [encT (.mk b ws), .ptr 0 0, .ptr 1 0] szH (.lit (.int .i64 (cntT (.mk b ws)))) := by
  refine SCall_introC Try.func40 rfl Try.ntmps40 (rs := [.tmp 4]) rfl (by simp) (N := 2) rfl ?_
  simp -implicitDefEqProofs only [awl, ne_eq, srcRows, awo, aggEq, eqF, litEq, andO, qwl, qwo, Go.Ab.qOp, lop, oneK, stepOp, pairO, pureOp, heapOp, entry, slotsOf, ev, evL, evP, evO, lk, up, St.put, St.drop, constAV, cellAV, cellsAV, plain, binV, nilCmp, intBin, strBin, guardBit, boolOf, fnOf, intOfAV, bound, resOf, retV, moved, rowOf, valAt, Kd.agg, AV.cells, splice, places, fillAV, rowsFill, Hp.none, ↓reduceIte, reduceCtorEq, Nat.reduceLT, Nat.reduceEqDiff, Nat.reduceAdd, Nat.reduceLeDiff, Nat.reducePow, Nat.reduceMul, Yzz, Xzz, Yzy, tyW, szH, encT_eq, encWs_map]
  refine stepK_lookup2 (tag := 2) (ka := encT (.mk b ws)) (za := .lit (.int .i64 0)) (zv := .int .i64 0) (S := isP) rfl (.ptr ptrNode) (fun _ _ => cinv2) rfl (fun g => .lit rfl) rfl (by simp only [encT_eq, encWs_map]; rfl) (isP_encT _) ?_ ?_
  · simp -implicitDefEqProofs only [awl, ne_eq, srcRows, awo, aggEq, eqF, litEq, andO, qwl, qwo, Go.Ab.qOp, lop, oneK, stepOp, pairO, pureOp, heapOp, entry, slotsOf, ev, evL, evP, evO, lk, up, St.put, St.drop, constAV, cellAV, cellsAV, plain, binV, nilCmp, intBin, strBin, guardBit, boolOf, fnOf, intOfAV, bound, resOf, retV, moved, rowOf, valAt, Kd.agg, AV.cells, splice, places, fillAV, rowsFill, Hp.none, ↓reduceIte, reduceCtorEq, Nat.reduceLT, Nat.reduceEqDiff, Nat.reduceAdd, Nat.reduceLeDiff, Nat.reducePow, Nat.reduceMul, Yzz, Xzz, Yzy, tyW]
    cases b
    · simp -implicitDefEqProofs only [awl, ne_eq, srcRows, awo, aggEq, eqF, litEq, andO, qwl, qwo, Go.Ab.qOp, lop, oneK, stepOp, pairO, pureOp, heapOp, entry, slotsOf, ev, evL, evP, evO, lk, up, St.put, St.drop, constAV, cellAV, cellsAV, plain, binV, nilCmp, intBin, strBin, guardBit, boolOf, fnOf, intOfAV, bound, resOf, retV, moved, rowOf, valAt, Kd.agg, AV.cells, splice, places, fillAV, rowsFill, Hp.none, ↓reduceIte, reduceCtorEq, Nat.reduceLT, Nat.reduceEqDiff, Nat.reduceAdd, Nat.reduceLeDiff, Nat.reducePow, Nat.reduceMul, Yzz, Xzz, Yzy, tyW]
      refine aw_forE ws.length 2 (cntS false ws) (fun _ _ => True) (Nat.le_refl _) () (St.wk.cp (St.wk_slots1 (by simp [lk, encT_eq, encWs_map, cntWs]) (by simp [lk, szH]) (fun t => rfl))) trivial (fun i _ hlt _ => ?_) (fun _ _ => ?_)
      · have i1 : (i : Int) < (ws.length : Int) := by omega
        have ncast : ∀ n : Nat, (0 : Int) ≤ (n : Int) := Int.natCast_nonneg
        obtain ⟨w, hw⟩ : ∃ w, ws[i]? = some w := ⟨_, List.getElem?_eq_getElem hlt⟩
        have gw := map_getD encW hw
        have hl7 := encW_length w
        have ew := encW_eq w
        rw [ew] at gw
        simp -implicitDefEqProofs only [awl, ne_eq, srcRows, awo, aggEq, eqF, litEq, andO, qwl, qwo, Go.Ab.qOp, lop, oneK, stepOp, pairO, pureOp, heapOp, entry, slotsOf, ev, evL, evP, evO, lk, up, St.put, St.drop, constAV, cellAV, cellsAV, plain, binV, nilCmp, intBin, strBin, guardBit, boolOf, fnOf, intOfAV, bound, resOf, retV, moved, rowOf, valAt, Kd.agg, AV.cells, splice, places, fillAV, rowsFill, Hp.none, ↓reduceIte, reduceCtorEq, Nat.reduceLT, Nat.reduceEqDiff, Nat.reduceAdd, Nat.reduceLeDiff, Nat.reducePow, Nat.reduceMul, Yzz, Xzz, Yzy, tyW, cntS, szH, i1, decide_true, ncast, Int.toNat_natCast, gw, List.length_map, tyCount]
        refine CallK_of call40 (count_at (gp_encT w.t) (ih w (List.mem_of_getElem? hw)) (by decide) (by show 0 < 3; decide) (by show 1 < 3; decide) rfl rfl rfl rfl) ?_
        rintro r h' ⟨rfl, rfl⟩
        have c1 := cnt_le _ w.t (Nat.le_refl _)
        have c2 : 0 ≤ cntWs (if false then 1 else 0) (ws.take i) ∧ cntWs (if false then 1 else 0) (ws.take i) ≤ 1073741824 := by
          have := cnt_le _ (.mk false (ws.take i)) (Nat.le_refl _)
          simpa [cntT] using this
        have tk : ws.take (i + 1) = ws.take i ++ [w] := by rw [List.take_add_one, hw]; rfl
        have hw1 : IntKind.i64.wrap (cntWs (if false then 1 else 0) (ws.take i) + cntT w.t) = cntWs (if false then 1 else 0) (ws.take i) + cntT w.t := i64w (by omega) (by omega)
        simp only [Bool.false_eq_true, if_true, if_false] at hw1
        simp -implicitDefEqProofs (disch := omega) only [awl, ne_eq, srcRows, awo, aggEq, eqF, litEq, andO, qwl, qwo, Go.Ab.qOp, lop, oneK, stepOp, pairO, pureOp, heapOp, entry, slotsOf, ev, evL, evP, evO, lk, up, St.put, St.drop, constAV, cellAV, cellsAV, plain, binV, nilCmp, intBin, strBin, guardBit, boolOf, fnOf, intOfAV, bound, resOf, retV, moved, rowOf, valAt, Kd.agg, AV.cells, splice, places, fillAV, rowsFill, Hp.none, ↓reduceIte, reduceCtorEq, Nat.reduceLT, Nat.reduceEqDiff, Nat.reduceAdd, Nat.reduceLeDiff, Nat.reducePow, Nat.reduceMul, Yzz, Xzz, Yzy, tyW, i64w, hw1]
        have hmin : (if 1073741824 < cntWs (if false then 1 else 0) (ws.take i) + cntT w.t then 1073741824 else cntWs (if false then 1 else 0) (ws.take i) + cntT w.t) = cntWs (if false then 1 else 0) (ws.take (i + 1)) := by
          rw [tk, cntWs_snoc, cntW_t]; omega
        simp only [Bool.false_eq_true, if_true, if_false] at hmin
        rw [hmin]
        exact ⟨(), cp_drop' (by show 2 ≤ 2; decide) (by show 2 ≤ 3; decide) rfl (allc ⟨rfl, .pure (.lit _)⟩ (allc ⟨rfl, .pure (.lit _)⟩ (allc ⟨rfl, GP.rn (.vec (gp_encWs ws))⟩ (allc ⟨rfl, .pure (.lit _)⟩ (allc ⟨rfl, GP.rn (gp_encT _)⟩ (allc ⟨rfl, .ptr (by show 0 < 2; decide) rfl⟩ (allc ⟨rfl, .ptr (by show 1 < 2; decide) rfl⟩ alln)))))))
          (allc ⟨by show 0 < 2; decide, rfl, .cons (GP.mp 2).rn .nil⟩ (allc ⟨by show 1 < 2; decide, rfl, .cons (.fn .nil (.cons (.ptr (by show 0 < 2; decide) rfl) (.cons (.ptr (by show 1 < 2; decide) rfl) .nil))) .nil⟩ alln)) alln⟩
      · have i1 : ¬ (ws.length : Int) < (ws.length : Int) := by omega
        simp -implicitDefEqProofs only [awl, ne_eq, srcRows, awo, aggEq, eqF, litEq, andO, qwl, qwo, Go.Ab.qOp, lop, oneK, stepOp, pairO, pureOp, heapOp, entry, slotsOf, ev, evL, evP, evO, lk, up, St.put, St.drop, constAV, cellAV, cellsAV, plain, binV, nilCmp, intBin, strBin, guardBit, boolOf, fnOf, intOfAV, bound, resOf, retV, moved, rowOf, valAt, Kd.agg, AV.cells, splice, places, fillAV, rowsFill, Hp.none, ↓reduceIte, reduceCtorEq, Nat.reduceLT, Nat.reduceEqDiff, Nat.reduceAdd, Nat.reduceLeDiff, Nat.reducePow, Nat.reduceMul, Yzz, Xzz, Yzy, tyW, cntS, szH, i1, decide_false, List.take_length]
        have hev : cntT (.mk false ws) = cntWs (if false then 1 else 0) ws := by simp [cntT]
        have hv := gp_encT (.mk false ws)
        refine stepK_mapUpdate (tag := 2) (S := isP) (ka := encT (.mk false ws)) (va := .lit (.int .i64 (cntT (.mk false ws)))) rfl (.ptr ptrNode) (fun _ _ => cinv2) rfl rfl (by rw [hev]; rfl) (isP_encT _) ⟨_, rfl, rfl⟩ hv (.lit _) ?_
        simp -implicitDefEqProofs only [awl, ne_eq, srcRows, awo, aggEq, eqF, litEq, andO, qwl, qwo, Go.Ab.qOp, lop, oneK, stepOp, pairO, pureOp, heapOp, entry, slotsOf, ev, evL, evP, evO, lk, up, St.put, St.drop, constAV, cellAV, cellsAV, plain, binV, nilCmp, intBin, strBin, guardBit, boolOf, fnOf, intOfAV, bound, resOf, retV, moved, rowOf, valAt, Kd.agg, AV.cells, splice, places, fillAV, rowsFill, Hp.none, ↓reduceIte, reduceCtorEq, Nat.reduceLT, Nat.reduceEqDiff, Nat.reduceAdd, Nat.reduceLeDiff, Nat.reducePow, Nat.reduceMul, Yzz, Xzz, Yzy, tyW]
        exact ret1 4 szH_own rfl (by show 2 ≤ 2; decide) (by rw [hev]; rfl) (.pure (.lit _)) (allc rfl (allc rfl alln)) alln
    · simp -implicitDefEqProofs only [awl, ne_eq, srcRows, awo, aggEq, eqF, litEq, andO, qwl, qwo, Go.Ab.qOp, lop, oneK, stepOp, pairO, pureOp, heapOp, entry, slotsOf, ev, evL, evP, evO, lk, up, St.put, St.drop, constAV, cellAV, cellsAV, plain, binV, nilCmp, intBin, strBin, guardBit, boolOf, fnOf, intOfAV, bound, resOf, retV, moved, rowOf, valAt, Kd.agg, AV.cells, splice, places, fillAV, rowsFill, Hp.none, ↓reduceIte, reduceCtorEq, Nat.reduceLT, Nat.reduceEqDiff, Nat.reduceAdd, Nat.reduceLeDiff, Nat.reducePow, Nat.reduceMul, Yzz, Xzz, Yzy, tyW]
      refine aw_forE ws.length 2 (cntS true ws) (fun _ _ => True) (Nat.le_refl _) () (St.wk.cp (St.wk_slots1 (by simp [lk, encT_eq, encWs_map, cntWs]) (by simp [lk, szH]) (fun t => rfl))) trivial (fun i _ hlt _ => ?_) (fun _ _ => ?_)
      · have i1 : (i : Int) < (ws.length : Int) := by omega
        have ncast : ∀ n : Nat, (0 : Int) ≤ (n : Int) := Int.natCast_nonneg
        obtain ⟨w, hw⟩ : ∃ w, ws[i]? = some w := ⟨_, List.getElem?_eq_getElem hlt⟩
        have gw := map_getD encW hw
        have hl7 := encW_length w
        have ew := encW_eq w
        rw [ew] at gw
        simp -implicitDefEqProofs only [awl, ne_eq, srcRows, awo, aggEq, eqF, litEq, andO, qwl, qwo, Go.Ab.qOp, lop, oneK, stepOp, pairO, pureOp, heapOp, entry, slotsOf, ev, evL, evP, evO, lk, up, St.put, St.drop, constAV, cellAV, cellsAV, plain, binV, nilCmp, intBin, strBin, guardBit, boolOf, fnOf, intOfAV, bound, resOf, retV, moved, rowOf, valAt, Kd.agg, AV.cells, splice, places, fillAV, rowsFill, Hp.none, ↓reduceIte, reduceCtorEq, Nat.reduceLT, Nat.reduceEqDiff, Nat.reduceAdd, Nat.reduceLeDiff, Nat.reducePow, Nat.reduceMul, Yzz, Xzz, Yzy, tyW, cntS, szH, i1, decide_true, ncast, Int.toNat_natCast, gw, List.length_map, tyCount]
        refine CallK_of call40 (count_at (gp_encT w.t) (ih w (List.mem_of_getElem? hw)) (by decide) (by show 0 < 3; decide) (by show 1 < 3; decide) rfl rfl rfl rfl) ?_
        rintro r h' ⟨rfl, rfl⟩
        have c1 := cnt_le _ w.t (Nat.le_refl _)
        have c2 : 0 ≤ cntWs (if true then 1 else 0) (ws.take i) ∧ cntWs (if true then 1 else 0) (ws.take i) ≤ 1073741824 := by
          have := cnt_le _ (.mk true (ws.take i)) (Nat.le_refl _)
          simpa [cntT] using this
        have tk : ws.take (i + 1) = ws.take i ++ [w] := by rw [List.take_add_one, hw]; rfl
        have hw1 : IntKind.i64.wrap (cntWs (if true then 1 else 0) (ws.take i) + cntT w.t) = cntWs (if true then 1 else 0) (ws.take i) + cntT w.t := i64w (by omega) (by omega)
        simp only [Bool.false_eq_true, if_true, if_false] at hw1
        simp -implicitDefEqProofs (disch := omega) only [awl, ne_eq, srcRows, awo, aggEq, eqF, litEq, andO, qwl, qwo, Go.Ab.qOp, lop, oneK, stepOp, pairO, pureOp, heapOp, entry, slotsOf, ev, evL, evP, evO, lk, up, St.put, St.drop, constAV, cellAV, cellsAV, plain, binV, nilCmp, intBin, strBin, guardBit, boolOf, fnOf, intOfAV, bound, resOf, retV, moved, rowOf, valAt, Kd.agg, AV.cells, splice, places, fillAV, rowsFill, Hp.none, ↓reduceIte, reduceCtorEq, Nat.reduceLT, Nat.reduceEqDiff, Nat.reduceAdd, Nat.reduceLeDiff, Nat.reducePow, Nat.reduceMul, Yzz, Xzz, Yzy, tyW, i64w, hw1]
        have hmin : (if 1073741824 < cntWs (if true then 1 else 0) (ws.take i) + cntT w.t then 1073741824 else cntWs (if true then 1 else 0) (ws.take i) + cntT w.t) = cntWs (if true then 1 else 0) (ws.take (i + 1)) := by
          rw [tk, cntWs_snoc, cntW_t]; omega
        simp only [Bool.false_eq_true, if_true, if_false] at hmin
        rw [hmin]
        exact ⟨(), cp_drop' (by show 2 ≤ 2; decide) (by show 2 ≤ 3; decide) rfl (allc ⟨rfl, .pure (.lit _)⟩ (allc ⟨rfl, .pure (.lit _)⟩ (allc ⟨rfl, GP.rn (.vec (gp_encWs ws))⟩ (allc ⟨rfl, .pure (.lit _)⟩ (allc ⟨rfl, GP.rn (gp_encT _)⟩ (allc ⟨rfl, .ptr (by show 0 < 2; decide) rfl⟩ (allc ⟨rfl, .ptr (by show 1 < 2; decide) rfl⟩ alln)))))))
          (allc ⟨by show 0 < 2; decide, rfl, .cons (GP.mp 2).rn .nil⟩ (allc ⟨by show 1 < 2; decide, rfl, .cons (.fn .nil (.cons (.ptr (by show 0 < 2; decide) rfl) (.cons (.ptr (by show 1 < 2; decide) rfl) .nil))) .nil⟩ alln)) alln⟩
      · have i1 : ¬ (ws.length : Int) < (ws.length : Int) := by omega
        simp -implicitDefEqProofs only [awl, ne_eq, srcRows, awo, aggEq, eqF, litEq, andO, qwl, qwo, Go.Ab.qOp, lop, oneK, stepOp, pairO, pureOp, heapOp, entry, slotsOf, ev, evL, evP, evO, lk, up, St.put, St.drop, constAV, cellAV, cellsAV, plain, binV, nilCmp, intBin, strBin, guardBit, boolOf, fnOf, intOfAV, bound, resOf, retV, moved, rowOf, valAt, Kd.agg, AV.cells, splice, places, fillAV, rowsFill, Hp.none, ↓reduceIte, reduceCtorEq, Nat.reduceLT, Nat.reduceEqDiff, Nat.reduceAdd, Nat.reduceLeDiff, Nat.reducePow, Nat.reduceMul, Yzz, Xzz, Yzy, tyW, cntS, szH, i1, decide_false, List.take_length]
        have hev : cntT (.mk true ws) = cntWs (if true then 1 else 0) ws := by simp [cntT]
        have hv := gp_encT (.mk true ws)
        refine stepK_mapUpdate (tag := 2) (S := isP) (ka := encT (.mk true ws)) (va := .lit (.int .i64 (cntT (.mk true ws)))) rfl (.ptr ptrNode) (fun _ _ => cinv2) rfl rfl (by rw [hev]; rfl) (isP_encT _) ⟨_, rfl, rfl⟩ hv (.lit _) ?_
        simp -implicitDefEqProofs only [awl, ne_eq, srcRows, awo, aggEq, eqF, litEq, andO, qwl, qwo, Go.Ab.qOp, lop, oneK, stepOp, pairO, pureOp, heapOp, entry, slotsOf, ev, evL, evP, evO, lk, up, St.put, St.drop, constAV, cellAV, cellsAV, plain, binV, nilCmp, intBin, strBin, guardBit, boolOf, fnOf, intOfAV, bound, resOf, retV, moved, rowOf, valAt, Kd.agg, AV.cells, splice, places, fillAV, rowsFill, Hp.none, ↓reduceIte, reduceCtorEq, Nat.reduceLT, Nat.reduceEqDiff, Nat.reduceAdd, Nat.reduceLeDiff, Nat.reducePow, Nat.reduceMul, Yzz, Xzz, Yzy, tyW]
        exact ret1 4 szH_own rfl (by show 2 ≤ 2; decide) (by rw [hev]; rfl) (.pure (.lit _)) (allc rfl (allc rfl alln)) alln
  · rintro kb va ⟨t, rfl, rfl⟩ hs
    cases same_encT hs
    simp -implicitDefEqProofs only [awl, ne_eq, srcRows, awo, aggEq, eqF, litEq, andO, qwl, qwo, Go.Ab.qOp, lop, oneK, stepOp, pairO, pureOp, heapOp, entry, slotsOf, ev, evL, evP, evO, lk, up, St.put, St.drop, constAV, cellAV, cellsAV, plain, binV, nilCmp, intBin, strBin, guardBit, boolOf, fnOf, intOfAV, bound, resOf, retV, moved, rowOf, valAt, Kd.agg, AV.cells, splice, places, fillAV, rowsFill, Hp.none, ↓reduceIte, reduceCtorEq, Nat.reduceLT, Nat.reduceEqDiff, Nat.reduceAdd, Nat.reduceLeDiff, Nat.reducePow, Nat.reduceMul, Yzz, Xzz, Yzy, tyW]
    exact ret1 4 szH_own rfl (by show 2 ≤ 2; decide) rfl (.pure (.lit _)) (allc rfl (allc rfl alln)) alln
theorem count_spec (n : Nat) (hn : n ≤ 2000000000) : ∀ (t : Tr), Bnd n t → QCall Try.prog 40 [encT t, .ptr 0 0, .ptr 1 0] szH (.lit (.int .i64 (cntT t)))
  | .mk b ws, h => countC b ws (Nat.le_trans h.len hn) fun w hw => count_spec n hn w.t (h.kid w hw)
termination_by t => szT t
decreasing_by exact szT_kid hw
def cntO : Option Tr → Int
  | none => 0
  | some t => cntT t
theorem Size_spec (n : Nat) (hn : n ≤ 2000000000) (a : Option Tr) (na : BndO n a) : KCall Try.prog 9 [encB a] (.lit (.int .i64 (cntO a))) := by
  refine KCall_of (SCall_intro Try.func9 rfl Try.ntmps9 (rs := [.tmp 2]) rfl (by simp) ?_)
  simp -implicitDefEqProofs only [awl, ne_eq, srcRows, awo, aggEq, eqF, litEq, andO, qwl, qwo, Go.Ab.qOp, lop, oneK, stepOp, pairO, pureOp, heapOp, entry, slotsOf, ev, evL, evP, evO, lk, up, St.put, St.drop, constAV, cellAV, cellsAV, plain, binV, nilCmp, intBin, strBin, guardBit, boolOf, fnOf, intOfAV, bound, resOf, retV, moved, rowOf, valAt, Kd.agg, AV.cells, splice, places, fillAV, rowsFill, Hp.none, ↓reduceIte, reduceCtorEq, Nat.reduceLT, Nat.reduceEqDiff, Nat.reduceAdd, Nat.reduceLeDiff, Nat.reducePow, Nat.reduceMul, Yzz, Xzz, Yzy, tyW, encB]
  refine stepK_makeMap 2 ?_
  simp -implicitDefEqProofs only [awl, ne_eq, srcRows, awo, aggEq, eqF, litEq, andO, qwl, qwo, Go.Ab.qOp, lop, oneK, stepOp, pairO, pureOp, heapOp, entry, slotsOf, ev, evL, evP, evO, lk, up, St.put, St.drop, constAV, cellAV, cellsAV, plain, binV, nilCmp, intBin, strBin, guardBit, boolOf, fnOf, intOfAV, bound, resOf, retV, moved, rowOf, valAt, Kd.agg, AV.cells, splice, places, fillAV, rowsFill, Hp.none, ↓reduceIte, reduceCtorEq, Nat.reduceLT, Nat.reduceEqDiff, Nat.reduceAdd, Nat.reduceLeDiff, Nat.reducePow, Nat.reduceMul, Yzz, Xzz, Yzy, tyW, tyCount]
  have hc : QCall Try.prog 40 [encO a, .ptr 0 0, .ptr 1 0] szH (.lit (.int .i64 (cntO a))) := by
    cases a with
    | none => exact count_nil
    | some t => exact count_spec n hn t (na t rfl)
  refine CallK_of call40 (count_at (i := 1) (j := 2) (gp_encO a) hc (by decide) (by show 1 < 3; decide) (by show 2 < 3; decide) rfl rfl rfl rfl) ?_
  rintro r h' ⟨rfl, rfl⟩
  simp -implicitDefEqProofs only [awl, ne_eq, srcRows, awo, aggEq, eqF, litEq, andO, qwl, qwo, Go.Ab.qOp, lop, oneK, stepOp, pairO, pureOp, heapOp, entry, slotsOf, ev, evL, evP, evO, lk, up, St.put, St.drop, constAV, cellAV, cellsAV, plain, binV, nilCmp, intBin, strBin, guardBit, boolOf, fnOf, intOfAV, bound, resOf, retV, moved, rowOf, valAt, Kd.agg, AV.cells, splice, places, fillAV, rowsFill, Hp.none, ↓reduceIte, reduceCtorEq, Nat.reduceLT, Nat.reduceEqDiff, Nat.reduceAdd, Nat.reduceLeDiff, Nat.reducePow, Nat.reduceMul, Yzz, Xzz, Yzy, tyW]
  exact kexpo (.lit _)
def hasO : Option Tr → List (Int × Int) → Option Tr
  | o, [] => o
  | o, f :: l => hasO (belowO f.1 f.2 o) l
theorem hasO_snoc : ∀ (l : List (Int × Int)) (o : Option Tr) (f : Int × Int), hasO o (l ++ [f]) = belowO f.1 f.2 (hasO o l)
  | [], o, f => rfl
  | g :: l, o, f => hasO_snoc l _ f
theorem hasO_ok {n : Nat} : ∀ (l : List (Int × Int)) (o : Option Tr), WfO o → BndO n o → WfO (hasO o l) ∧ BndO n (hasO o l)
  | [], o, h1, h2 => ⟨h1, h2⟩
  | f :: l, o, h1, h2 => hasO_ok l _ h1.below h2.below
def hsS (a : Option Tr) (l : List (Int × Int)) (fl : Bool) (k : Nat) (_ : Unit) : St :=
  ⟨[(5, .lit (.int .i64 ((l.length : Int) - 1 - k))), (2, .ptr 0 0), (1, .vec (l.map encP) fl)], ⟨[(0, [encO (hasO a (l.reverse.take k))])], [], 1⟩, 21⟩
theorem Has_any (n : Nat) (hn : n ≤ 2000000000) (a : Option Tr) (ha : WfO a) (na : BndO n a) (l : List (Int × Int)) (hl : l.length ≤ 9223372036854775807) (fl : Bool) : KCall Try.prog 10 [encB a, .vec (l.map encP) fl] (.lit (.bool (bareO (hasO a l.reverse)))) := by
  refine KCall_of (SCall_intro Try.func10 rfl Try.ntmps10 (rs := [.tmp 4]) rfl (by simp) ?_)
  simp -implicitDefEqProofs only [awl, ne_eq, srcRows, awo, aggEq, eqF, litEq, andO, qwl, qwo, Go.Ab.qOp, lop, oneK, stepOp, pairO, pureOp, heapOp, entry, slotsOf, ev, evL, evP, evO, lk, up, St.put, St.drop, constAV, cellAV, cellsAV, plain, binV, nilCmp, intBin, strBin, guardBit, boolOf, fnOf, intOfAV, bound, resOf, retV, moved, rowOf, valAt, Kd.agg, AV.cells, splice, places, fillAV, rowsFill, Hp.none, ↓reduceIte, reduceCtorEq, Nat.reduceLT, Nat.reduceEqDiff, Nat.reduceAdd, Nat.reduceLeDiff, Nat.reducePow, Nat.reduceMul, Yzz, Xzz, Yzy, tyW, encB, List.length_map]
  have w0 : IntKind.i64.wrap ((l.length : Int) - 1) = (l.length : Int) - 1 := i64w (by omega) (by omega)
  rw [w0]
  refine aw_for l.length 1 (hsS a l fl) (fun _ _ => True) (fun _ _ => rfl) () (St.wk_slots1 (by simp [lk]) (by simp [lk, hasO]) (fun t => rfl)) trivial (fun k _ hlt _ => ?_) (fun _ _ => ?_)
  · have i1 : ((l.length : Int) - 1 - k ≥ 0) = True := by simp; omega
    have i2 : (0 : Int) ≤ (l.length : Int) - 1 - k := by omega
    have i3 : (l.length : Int) - 1 - k < (l.length : Int) := by omega
    have it : ((l.length : Int) - 1 - k).toNat = l.length - 1 - k := by omega
    obtain ⟨f, hf⟩ : ∃ f, l[l.length - 1 - k]? = some f := ⟨_, List.getElem?_eq_getElem (by omega)⟩
    have gf := map_getD encP hf
    have ef : encP f = [.lit (.int .i64 f.1), .lit (.int .i64 f.2)] := rfl
    rw [ef] at gf
    have hr : l.reverse[k]? = some f := by rw [List.getElem?_reverse hlt]; exact hf
    have tk : l.reverse.take (k + 1) = l.reverse.take k ++ [f] := by rw [List.take_add_one, hr]; rfl
    obtain ⟨o1, o2⟩ := hasO_ok (l.reverse.take k) a ha na
    have w1 : IntKind.i64.wrap ((l.length : Int) - 1 - k - 1) = (l.length : Int) - 1 - (k + 1 : Nat) := by rw [i64w (by omega) (by omega)]; omega
    unfold hsS
    rw [tk, hasO_snoc]
    generalize hasO a (l.reverse.take k) = o at o1 o2 ⊢
    simp -implicitDefEqProofs only [awl, ne_eq, srcRows, awo, aggEq, eqF, litEq, andO, qwl, qwo, Go.Ab.qOp, lop, oneK, stepOp, pairO, pureOp, heapOp, entry, slotsOf, ev, evL, evP, evO, lk, up, St.put, St.drop, constAV, cellAV, cellsAV, plain, binV, nilCmp, intBin, strBin, guardBit, boolOf, fnOf, intOfAV, bound, resOf, retV, moved, rowOf, valAt, Kd.agg, AV.cells, splice, places, fillAV, rowsFill, Hp.none, ↓reduceIte, reduceCtorEq, Nat.reduceLT, Nat.reduceEqDiff, Nat.reduceAdd, Nat.reduceLeDiff, Nat.reducePow, Nat.reduceMul, Yzz, Xzz, Yzy, tyW, i1, decide_true]
    refine aw_drawC (n := 21) (σ' := ⟨[(5, .lit (.int .i64 ((l.length : Int) - 1 - k))), (2, .ptr 0 0), (1, .vec (l.map encP) fl)], ⟨[(0, [encO (belowO f.1 f.2 o)])], [], 1⟩, 21⟩) 1 6 (.alt 6 .leaf .nil) rfl (by decide) (by decide) mixed (by kernel_rfl) (by decide) ?_ ?_
    · simp -implicitDefEqProofs only [awl, ne_eq, srcRows, awo, aggEq, eqF, litEq, andO, qwl, qwo, Go.Ab.qOp, lop, oneK, stepOp, pairO, pureOp, heapOp, entry, slotsOf, ev, evL, evP, evO, lk, up, St.put, St.drop, constAV, cellAV, cellsAV, plain, binV, nilCmp, intBin, strBin, guardBit, boolOf, fnOf, intOfAV, bound, resOf, retV, moved, rowOf, valAt, Kd.agg, AV.cells, splice, places, fillAV, rowsFill, Hp.none, ↓reduceIte, reduceCtorEq, Nat.reduceLT, Nat.reduceEqDiff, Nat.reduceAdd, Nat.reduceLeDiff, Nat.reducePow, Nat.reduceMul, Yzz, Xzz, Yzy, tyW, i2, i3, it, gf, List.length_map]
      refine CallQ_k call23 (Below_spec n hn o o1 o2 f.1 f.2) (allc (gp_encB o) (allc (.agg (allc (.lit _) (allc (.lit _) alln))) alln)) (gp_encB _) ?_
      simp -implicitDefEqProofs only [awl, ne_eq, srcRows, awo, aggEq, eqF, litEq, andO, qwl, qwo, Go.Ab.qOp, lop, oneK, stepOp, pairO, pureOp, heapOp, entry, slotsOf, ev, evL, evP, evO, lk, up, St.put, St.drop, constAV, cellAV, cellsAV, plain, binV, nilCmp, intBin, strBin, guardBit, boolOf, fnOf, intOfAV, bound, resOf, retV, moved, rowOf, valAt, Kd.agg, AV.cells, splice, places, fillAV, rowsFill, Hp.none, ↓reduceIte, reduceCtorEq, Nat.reduceLT, Nat.reduceEqDiff, Nat.reduceAdd, Nat.reduceLeDiff, Nat.reducePow, Nat.reduceMul, Yzz, Xzz, Yzy, tyW, encB]
      exact St.wk.cp (St.wk_slots1 (by simp [lk]) (by simp [lk]) (fun t => rfl))
    · simp -implicitDefEqProofs only [awl, ne_eq, srcRows, awo, aggEq, eqF, litEq, andO, qwl, qwo, Go.Ab.qOp, lop, oneK, stepOp, pairO, pureOp, heapOp, entry, slotsOf, ev, evL, evP, evO, lk, up, St.put, St.drop, constAV, cellAV, cellsAV, plain, binV, nilCmp, intBin, strBin, guardBit, boolOf, fnOf, intOfAV, bound, resOf, retV, moved, rowOf, valAt, Kd.agg, AV.cells, splice, places, fillAV, rowsFill, Hp.none, ↓reduceIte, reduceCtorEq, Nat.reduceLT, Nat.reduceEqDiff, Nat.reduceAdd, Nat.reduceLeDiff, Nat.reducePow, Nat.reduceMul, Yzz, Xzz, Yzy, tyW, w1]
      exact ⟨(), St.wk.cp (St.wk_slots (by simp [lk]))⟩
  · have i1 : ((l.length : Int) - 1 - l.length ≥ 0) = False := by simp; omega
    have tk : l.reverse.take l.length = l.reverse := List.take_of_length_le (by simp)
    simp -implicitDefEqProofs only [awl, ne_eq, srcRows, awo, aggEq, eqF, litEq, andO, qwl, qwo, Go.Ab.qOp, lop, oneK, stepOp, pairO, pureOp, heapOp, entry, slotsOf, ev, evL, evP, evO, lk, up, St.put, St.drop, constAV, cellAV, cellsAV, plain, binV, nilCmp, intBin, strBin, guardBit, boolOf, fnOf, intOfAV, bound, resOf, retV, moved, rowOf, valAt, Kd.agg, AV.cells, splice, places, fillAV, rowsFill, Hp.none, ↓reduceIte, reduceCtorEq, Nat.reduceLT, Nat.reduceEqDiff, Nat.reduceAdd, Nat.reduceLeDiff, Nat.reducePow, Nat.reduceMul, Yzz, Xzz, Yzy, tyW, hsS, i1, decide_false, tk]
    refine CallK_k call12 (Bare_spec (hasO a l.reverse)) (allc (gp_encB _) alln) (.lit _) ?_
    simp -implicitDefEqProofs only [awl, ne_eq, srcRows, awo, aggEq, eqF, litEq, andO, qwl, qwo, Go.Ab.qOp, lop, oneK, stepOp, pairO, pureOp, heapOp, entry, slotsOf, ev, evL, evP, evO, lk, up, St.put, St.drop, constAV, cellAV, cellsAV, plain, binV, nilCmp, intBin, strBin, guardBit, boolOf, fnOf, intOfAV, bound, resOf, retV, moved, rowOf, valAt, Kd.agg, AV.cells, splice, places, fillAV, rowsFill, Hp.none, ↓reduceIte, reduceCtorEq, Nat.reduceLT, Nat.reduceEqDiff, Nat.reduceAdd, Nat.reduceLeDiff, Nat.reducePow, Nat.reduceMul, Yzz, Xzz, Yzy, tyW]
    exact kexpo (.lit _)
theorem Has_spec (n : Nat) (hn : n ≤ 2000000000) (a : Option Tr) (ha : WfO a) (na : BndO n a) (l : List (Int × Int)) (hl : l.length ≤ 2000000000) (fl : Bool) : KCall Try.prog 10 [encB a, .vec (l.map encP) fl] (.lit (.bool (bareO (hasO a l.reverse)))) :=
  Has_any n hn a ha na l (by omega) fl
end Go.Proofs.Ytfnmdmadaljjkaa
end

section
namespace Go.Proofs.Ytfnmdmadaljjkaa
open Go.Ab
set_option linter.unusedSimpArgs false
set_option linter.unusedVariables false
set_option maxRecDepth 20000
set_option maxHeartbeats 4000000

theorem clone_nil (fl : Bool) : PCall Try.prog 32 [.vec [] fl] (.vec [] true) := by
  refine PCall_intro Try.func32 rfl Try.ntmps32 (rs := [.tmp 2]) rfl (by simp) ?_
  have hf0 : fits 0 16 := by decide
  simp -implicitDefEqProofs only [awl, ne_eq, srcRows, awo, aggEq, eqF, litEq, andO, qwl, qwo, Go.Ab.qOp, lop, oneK, stepOp, pairO, pureOp, heapOp, entry, slotsOf, ev, evL, evP, evO, lk, up, St.put, St.drop, constAV, cellAV, cellsAV, plain, binV, nilCmp, intBin, strBin, guardBit, boolOf, fnOf, intOfAV, bound, resOf, retV, moved, rowOf, valAt, Kd.agg, AV.cells, splice, places, fillAV, rowsFill, Hp.none, ↓reduceIte, reduceCtorEq, Nat.reduceLT, Nat.reduceEqDiff, Nat.reduceAdd, Nat.reduceLeDiff, Nat.reducePow, Nat.reduceMul, Yzz, Xzz, Yzy, tyW]
  refine stepK_eql_nil (xs := []) (f := fl) rfl ty23 rfl fun b hb => ?_
  cases b
  · simp -implicitDefEqProofs only [awl, ne_eq, srcRows, awo, aggEq, eqF, litEq, andO, qwl, qwo, Go.Ab.qOp, lop, oneK, stepOp, pairO, pureOp, heapOp, entry, slotsOf, ev, evL, evP, evO, lk, up, St.put, St.drop, constAV, cellAV, cellsAV, plain, binV, nilCmp, intBin, strBin, guardBit, boolOf, fnOf, intOfAV, bound, resOf, retV, moved, rowOf, valAt, Kd.agg, AV.cells, splice, places, fillAV, rowsFill, Hp.none, ↓reduceIte, reduceCtorEq, Nat.reduceLT, Nat.reduceEqDiff, Nat.reduceAdd, Nat.reduceLeDiff, Nat.reducePow, Nat.reduceMul, Yzz, Xzz, Yzy, tyW, List.not_mem_nil, false_imp_iff, implies_true, hf0, eq_self, if_true]
    exact expo_pure (.vec (by simp))
  · simp -implicitDefEqProofs only [awl, ne_eq, srcRows, awo, aggEq, eqF, litEq, andO, qwl, qwo, Go.Ab.qOp, lop, oneK, stepOp, pairO, pureOp, heapOp, entry, slotsOf, ev, evL, evP, evO, lk, up, St.put, St.drop, constAV, cellAV, cellsAV, plain, binV, nilCmp, intBin, strBin, guardBit, boolOf, fnOf, intOfAV, bound, resOf, retV, moved, rowOf, valAt, Kd.agg, AV.cells, splice, places, fillAV, rowsFill, Hp.none, ↓reduceIte, reduceCtorEq, Nat.reduceLT, Nat.reduceEqDiff, Nat.reduceAdd, Nat.reduceLeDiff, Nat.reducePow, Nat.reduceMul, Yzz, Xzz, Yzy, tyW]
    exact expo_pure (.vec (by simp))
theorem clone_cons (x : Int × Int) (l : List (Int × Int)) (fl : Bool) (hl : l.length ≤ 1000000000) : SCall Try.prog 32 [.vec ((x :: l).map encP) fl] .none (fun r h' => r = .own 0 (l.length + 1) ∧ h' = ⟨[], [(0, ⟨(x :: l).map encP, 0, 2⟩)], 1⟩) := by
  refine SCall_introC Try.func32 rfl Try.ntmps32 (rs := [.tmp 2]) rfl (by simp) (N := 0) rfl ?_
  have hf : fits (l.length + 1) 16 := fits_of' (by omega) (by omega)
  have h0 : ((l.length + 1 : Nat) = 0) = False := by simp
  have r3 : ∀ q ∈ encP x :: l.map encP, q.length = 2 := fun q hq => by
    obtain ⟨v, _, rfl⟩ := List.mem_map.1 (show q ∈ (x :: l).map encP from hq); rfl
  simp -implicitDefEqProofs only [awl, ne_eq, srcRows, awo, aggEq, eqF, litEq, andO, qwl, qwo, Go.Ab.qOp, lop, oneK, stepOp, pairO, pureOp, heapOp, entry, slotsOf, ev, evL, evP, evO, lk, up, St.put, St.drop, constAV, cellAV, cellsAV, plain, binV, nilCmp, intBin, strBin, guardBit, boolOf, fnOf, intOfAV, bound, resOf, retV, moved, rowOf, valAt, Kd.agg, AV.cells, splice, places, fillAV, rowsFill, Hp.none, ↓reduceIte, reduceCtorEq, Nat.reduceLT, Nat.reduceEqDiff, Nat.reduceAdd, Nat.reduceLeDiff, Nat.reducePow, Nat.reduceMul, Yzz, Xzz, Yzy, tyW, List.map_cons]
  refine stepK_eql_nil (xs := encP x :: l.map encP) (f := fl) rfl ty23 rfl fun b hb => ?_
  cases b
  · simp -implicitDefEqProofs only [awl, ne_eq, srcRows, awo, aggEq, eqF, litEq, andO, qwl, qwo, Go.Ab.qOp, lop, oneK, stepOp, pairO, pureOp, heapOp, entry, slotsOf, ev, evL, evP, evO, lk, up, St.put, St.drop, constAV, cellAV, cellsAV, plain, binV, nilCmp, intBin, strBin, guardBit, boolOf, fnOf, intOfAV, bound, resOf, retV, moved, rowOf, valAt, Kd.agg, AV.cells, splice, places, fillAV, rowsFill, Hp.none, ↓reduceIte, reduceCtorEq, Nat.reduceLT, Nat.reduceEqDiff, Nat.reduceAdd, Nat.reduceLeDiff, Nat.reducePow, Nat.reduceMul, Yzz, Xzz, Yzy, tyW, List.not_mem_nil, false_imp_iff, implies_true, hf, eq_true r3, h0, if_true, if_false, List.length_map]
    refine ⟨⟨[(2, .own 0 (l.length + 1))], ⟨[], [(0, ⟨encP x :: l.map encP, 0, 2⟩)], 1⟩, 8⟩, St.wk.cp (St.wk_slots (by simp [lk])), ?_⟩
    simp -implicitDefEqProofs only [awl, ne_eq, srcRows, awo, aggEq, eqF, litEq, andO, qwl, qwo, Go.Ab.qOp, lop, oneK, stepOp, pairO, pureOp, heapOp, entry, slotsOf, ev, evL, evP, evO, lk, up, St.put, St.drop, constAV, cellAV, cellsAV, plain, binV, nilCmp, intBin, strBin, guardBit, boolOf, fnOf, intOfAV, bound, resOf, retV, moved, rowOf, valAt, Kd.agg, AV.cells, splice, places, fillAV, rowsFill, Hp.none, ↓reduceIte, reduceCtorEq, Nat.reduceLT, Nat.reduceEqDiff, Nat.reduceAdd, Nat.reduceLeDiff, Nat.reducePow, Nat.reduceMul, Yzz, Xzz, Yzy, tyW]
  · cases hb rfl
theorem reverse_nil (fl : Bool) : PCall Try.prog 33 [.vec [] fl] (.tup []) := by
  refine PCall_intro Try.func33 rfl Try.ntmps33 (rs := []) rfl (by simp) ?_
  have w0 : IntKind.i64.wrap (((0 : Nat) : Int) - 1) = -1 := by decide
  have i1 : ¬ (0 : Int) < -1 := by decide
  simp -implicitDefEqProofs only [awl, ne_eq, srcRows, awo, aggEq, eqF, litEq, andO, qwl, qwo, Go.Ab.qOp, lop, oneK, stepOp, pairO, pureOp, heapOp, entry, slotsOf, ev, evL, evP, evO, lk, up, St.put, St.drop, constAV, cellAV, cellsAV, plain, binV, nilCmp, intBin, strBin, guardBit, boolOf, fnOf, intOfAV, bound, resOf, retV, moved, rowOf, valAt, Kd.agg, AV.cells, splice, places, fillAV, rowsFill, Hp.none, ↓reduceIte, reduceCtorEq, Nat.reduceLT, Nat.reduceEqDiff, Nat.reduceAdd, Nat.reduceLeDiff, Nat.reducePow, Nat.reduceMul, Yzz, Xzz, Yzy, tyW, w0]
  refine aw_for 0 0 (fun _ (_ : Unit) => ⟨[(2, .lit (.int .i64 0)), (3, .lit (.int .i64 (-1)))], .none, 28⟩) (fun _ _ => True) (fun _ _ => rfl) () (St.wk_slots (by simp [lk])) trivial (fun i _ hlt _ => absurd hlt (Nat.not_lt_zero _)) (fun _ _ => ?_)
  simp -implicitDefEqProofs only [awl, ne_eq, srcRows, awo, aggEq, eqF, litEq, andO, qwl, qwo, Go.Ab.qOp, lop, oneK, stepOp, pairO, pureOp, heapOp, entry, slotsOf, ev, evL, evP, evO, lk, up, St.put, St.drop, constAV, cellAV, cellsAV, plain, binV, nilCmp, intBin, strBin, guardBit, boolOf, fnOf, intOfAV, bound, resOf, retV, moved, rowOf, valAt, Kd.agg, AV.cells, splice, places, fillAV, rowsFill, Hp.none, ↓reduceIte, reduceCtorEq, Nat.reduceLT, Nat.reduceEqDiff, Nat.reduceAdd, Nat.reduceLeDiff, Nat.reducePow, Nat.reduceMul, Yzz, Xzz, Yzy, tyW, i1, decide_false]
  exact expo_pure (.tup (by simp))
/-- A row turned round, in any heap. -/
def RevC (l : List (Int × Int)) : Prop := SCall Try.prog 33 [.own 0 l.length] ⟨[], [(0, ⟨l.map encP, 0, 2⟩)], 1⟩ (fun r h' => r = .tup [] ∧ h' = ⟨[], [(0, ⟨l.reverse.map encP, 0, 2⟩)], 1⟩)
theorem rev_at {l : List (Int × Int)} (hc : RevC l) {H : Hp} {t : Nat} (ht : lk H.toks t = some ⟨l.map encP, 0, 2⟩) (hlt : t < H.nx) :
    SCall Try.prog 33 [.own t l.length] H (fun r h' => r = .tup [] ∧ h' = ⟨H.boxes, (t, ⟨l.reverse.map encP, 0, 2⟩) :: H.toks, H.nx⟩) := by
  refine SCall.sub (hs := ⟨[], [(0, ⟨l.map encP, 0, 2⟩)], 1⟩) (rho [t]) (fun a b ha hb e => rho_inj (l := [t]) (by simp) a b ha hb e) (fun a ha => rho_lt (l := [t]) (by simpa using hlt) a ha)
    (.cons (.own (by show 0 < 1; decide) rfl) .nil) alln (allc ⟨by show 0 < 1; decide, _, ht, rfl, rfl, .pure (pure_rows pure_encP _)⟩ alln) hc ?_
  rintro r h' ⟨rfl, rfl⟩ hle
  refine ⟨.tup [], ⟨H.boxes, (t, ⟨l.reverse.map encP, 0, 2⟩) :: H.toks, H.nx⟩, 0, Nat.le_refl _, rfl, .tup .nil, fun id cs' e => .inr ⟨e, fun i c e' => by cases e'⟩, fun id k e => ?_, rfl, rfl⟩
  simp only [lk] at e
  split at e
  · rename_i q; cases e; subst q
    exact .inl ⟨0, _, by show 0 < 1; decide, rfl, rfl, rfl, rfl, .pure (pure_rows pure_encP _)⟩
  · rename_i q
    refine .inr ⟨e, fun i hi => ?_⟩
    have : i = 0 := by have hi : i < 1 := hi; omega
    subst this
    exact q
theorem reverse_one (l : List (Int × Int)) (hl : l.length ≤ 1) : SCall Try.prog 33 [.own 0 l.length] ⟨[], [(0, ⟨l.map encP, 0, 2⟩)], 1⟩ (fun r h' => r = .tup [] ∧ h' = ⟨[], [(0, ⟨l.reverse.map encP, 0, 2⟩)], 1⟩) := by
  refine SCall_introC Try.func33 rfl Try.ntmps33 (rs := []) rfl (by simp) (N := 1) rfl ?_
  have w0 : IntKind.i64.wrap ((l.length : Int) - 1) = (l.length : Int) - 1 := i64w (by omega) (by omega)
  have hr : l.reverse = l := by
    match l, hl with
    | [], _ => rfl
    | [x], _ => rfl
  rw [hr]
  have i1 : ¬ (0 : Int) < (l.length : Int) - 1 := by omega
  simp -implicitDefEqProofs only [awl, ne_eq, srcRows, awo, aggEq, eqF, litEq, andO, qwl, qwo, Go.Ab.qOp, lop, oneK, stepOp, pairO, pureOp, heapOp, entry, slotsOf, ev, evL, evP, evO, lk, up, St.put, St.drop, constAV, cellAV, cellsAV, plain, binV, nilCmp, intBin, strBin, guardBit, boolOf, fnOf, intOfAV, bound, resOf, retV, moved, rowOf, valAt, Kd.agg, AV.cells, splice, places, fillAV, rowsFill, Hp.none, ↓reduceIte, reduceCtorEq, Nat.reduceLT, Nat.reduceEqDiff, Nat.reduceAdd, Nat.reduceLeDiff, Nat.reducePow, Nat.reduceMul, Yzz, Xzz, Yzy, tyW, w0]
  refine aw_for 0 1 (fun _ (_ : Unit) => ⟨[(2, .lit (.int .i64 0)), (3, .lit (.int .i64 ((l.length : Int) - 1)))], ⟨[], [(0, ⟨l.map encP, 0, 2⟩)], 1⟩, 28⟩) (fun _ _ => True) (fun _ _ => rfl) () (St.wk_slots (by simp [lk])) trivial (fun i _ hlt _ => absurd hlt (Nat.not_lt_zero _)) (fun _ _ => ?_)
  simp -implicitDefEqProofs only [awl, ne_eq, srcRows, awo, aggEq, eqF, litEq, andO, qwl, qwo, Go.Ab.qOp, lop, oneK, stepOp, pairO, pureOp, heapOp, entry, slotsOf, ev, evL, evP, evO, lk, up, St.put, St.drop, constAV, cellAV, cellsAV, plain, binV, nilCmp, intBin, strBin, guardBit, boolOf, fnOf, intOfAV, bound, resOf, retV, moved, rowOf, valAt, Kd.agg, AV.cells, splice, places, fillAV, rowsFill, Hp.none, ↓reduceIte, reduceCtorEq, Nat.reduceLT, Nat.reduceEqDiff, Nat.reduceAdd, Nat.reduceLeDiff, Nat.reducePow, Nat.reduceMul, Yzz, Xzz, Yzy, tyW, i1, decide_false]
  exact ⟨_, St.wk.cp (St.wk.refl _), rfl⟩
end Go.Proofs.Ytfnmdmadaljjkaa
end

section
namespace Go.Proofs.Ytfnmdmadaljjkaa
open Go.Ab
set_option linter.unusedSimpArgs false
set_option linter.unusedVariables false
set_option maxRecDepth 20000
set_option maxHeartbeats 4000000

mutual
def stkT : Tr → Sk → List Sk
  | .mk b ws, top => (if b then [top.reverse] else []) ++ stkWs ws top
def stkWs : List Wy → Sk → List Sk
  | [], _ => []
  | w :: l, top => stkW w top ++ stkWs l top
def stkW : Wy → Sk → List Sk
  | .mk s l t, top => stkT t (top ++ [(s, l)])
end
def stkO : Option Tr → Sk → List Sk
  | none, _ => []
  | some t, top => stkT t top
theorem stkW_t (w : Wy) (top : Sk) : stkW w top = stkT w.t (top ++ [(w.s, w.l)]) := by cases w; simp [stkW, Wy.t, Wy.s, Wy.l]
theorem stkWs_app (l m : List Wy) (top : Sk) : stkWs (l ++ m) top = stkWs l top ++ stkWs m top := by
  induction l with
  | nil => simp [stkWs]
  | cons w l ih => simp [stkWs, ih]
theorem tyDown : tyOf Try.prog 62 = some { kd := .oth, size := 1, bytes := 8, zero := some [.lit .nilFunc] } := by kernel_rfl
def dnF (i j : Nat) : AV := .fn (.func 31) [] [.ptr i 0, .ptr j 0]
def alH (rows : List Sk) : Hp := ⟨[(0, [grA 2 (rows.map encR)]), (1, [dnF 0 1])], grT 2 1 (rows.map encR), grN 2 (rows.map encR)⟩
def dnG (i j t nx : Nat) (rows rows2 : List Sk) : Hp :=
  if rows = [] ∧ rows2 ≠ [] then ⟨[(i, [.own nx rows2.length]), (j, [dnF i j])], [(nx, ⟨rows2.map encR, 0, 1⟩)], nx + 1⟩ else ⟨[(i, [grA t (rows2.map encR)]), (j, [dnF i j])], grT t 1 (rows2.map encR), nx⟩
theorem grA_own {t : Nat} {rows : List Sk} (h : rows ≠ []) : grA t (rows.map encR) = .own t rows.length := by
  cases rows with
  | nil => exact absurd rfl h
  | cons x l => simp [grA]
theorem grT_own {t : Nat} {rows : List Sk} (h : rows ≠ []) : grT t 1 (rows.map encR) = [(t, ⟨rows.map encR, 0, 1⟩)] := by
  cases rows with
  | nil => exact absurd rfl h
  | cons x l => simp [grT]
theorem grN_own {t : Nat} {rows : List Sk} (h : rows ≠ []) : grN t (rows.map encR) = t + 1 := by
  cases rows with
  | nil => exact absurd rfl h
  | cons x l => simp [grN]
theorem rn_dnF {ρ : Nat → Nat} {n i j i' j' : Nat} (hi : i < n) (hj : j < n) (e1 : ρ i = i') (e2 : ρ j = j') : Rn ρ n (dnF i j) (dnF i' j') := .fn .nil (.cons (.ptr hi e1) (.cons (.ptr hj e2) .nil))
theorem down_at {o : Option Tr} {top rows rows2 : List _} (hc : SCall Try.prog 31 [encO o, encS top, .ptr 0 0, .ptr 1 0] (alH rows) (fun r h' => r = .tup [] ∧ h' = alH rows2)) (hsub : rows ≠ [] → rows2 ≠ []) {H : Hp} {i j t : Nat} (hij : i ≠ j) (hi : i < H.nx) (hj : j < H.nx)
    (h0 : lk H.boxes i = some [grA t (rows.map encR)]) (h1 : lk H.boxes j = some [dnF i j]) (ht : rows ≠ [] → lk H.toks t = some ⟨rows.map encR, 0, 1⟩ ∧ t < H.nx ∧ i ≠ t ∧ j ≠ t) :
    SCall Try.prog 31 [encO o, encS top, .ptr i 0, .ptr j 0] H (fun r h' => r = .tup [] ∧ h' = dnG i j t H.nx rows rows2) := by
  by_cases hr : rows = []
  · subst hr
    have hs : alH [] = ⟨[(0, [.vec [] true]), (1, [dnF 0 1])], [], 2⟩ := rfl
    rw [hs] at hc
    refine SCall.sub (hs := ⟨[(0, [.vec [] true]), (1, [dnF 0 1])], [], 2⟩) (rho [i, j]) (fun a b ha hb e => rho_inj (l := [i, j]) (by simpa using hij) a b ha hb e) (fun a ha => rho_lt (l := [i, j]) (by simp; omega) a ha)
      (.cons (gp_encO o).rn (.cons (.pure (pureS top)) (.cons (.ptr (by show 0 < 2; decide) rfl) (.cons (.ptr (by show 1 < 2; decide) rfl) .nil))))
      (allc ⟨by show 0 < 2; decide, _, h0, .cons (.pure (.vec (by simp))) .nil⟩ (allc ⟨by show 1 < 2; decide, _, h1, .cons (rn_dnF (by show 0 < 2; decide) (by show 1 < 2; decide) rfl rfl) .nil⟩ alln)) alln hc ?_
    rintro r h' ⟨rfl, rfl⟩ hle
    by_cases h2 : rows2 = []
    · subst h2
      refine ⟨.tup [], dnG i j t H.nx [] [], 0, Nat.le_refl _, ?_, .tup .nil, fun id cs' e => ?_, fun id k e => ?_, rfl, rfl⟩
      · simp [dnG]
      · simp only [dnG, ne_eq, not_true_eq_false, and_false, if_false, lk] at e
        split at e
        · rename_i q; cases e; subst q
          exact .inl ⟨0, _, by show 0 < 2; decide, rfl, rfl, .cons (.pure (.vec (by simp))) .nil⟩
        · split at e
          · rename_i q; cases e; subst q
            exact .inl ⟨1, _, by show 1 < 2; decide, rfl, rfl, .cons (rn_dnF (by show 0 < 2; decide) (by show 1 < 2; decide) rfl rfl) .nil⟩
          · cases e
      · simp [dnG, grT, lk] at e
    · refine ⟨.tup [], dnG i j t H.nx [] rows2, 1, ?_, ?_, .tup .nil, fun id cs' e => ?_, fun id k e => ?_, rfl, rfl⟩
      · show 3 ≤ grN 2 (rows2.map encR); rw [grN_own h2]; decide
      · simp [dnG, h2]
      · simp only [dnG, h2, ne_eq, not_false_eq_true, and_self, if_true, lk] at e
        split at e
        · rename_i q; cases e; subst q
          refine .inl ⟨0, [grA 2 (rows2.map encR)], by show 0 < 3; decide, rfl, rfl, .cons ?_ .nil⟩
          rw [grA_own h2]; exact .own (by show 2 < 3; decide) (by simp [ren])
        · split at e
          · rename_i q; cases e; subst q
            exact .inl ⟨1, _, by show 1 < 3; decide, rfl, rfl, .cons (rn_dnF (by show 0 < 3; decide) (by show 1 < 3; decide) rfl rfl) .nil⟩
          · cases e
      · simp only [dnG, h2, ne_eq, not_false_eq_true, and_self, if_true, lk] at e
        split at e
        · rename_i q; cases e; subst q
          refine .inl ⟨2, ⟨rows2.map encR, 0, 1⟩, by show 2 < 3; decide, by simp [ren], ?_, rfl, rfl, .pure (pure_rows pureR _)⟩
          show lk (grT 2 1 (rows2.map encR)) 2 = _; rw [grT_own h2]; rfl
        · cases e
  · have h2 := hsub hr
    obtain ⟨t1, t2, t3, t4⟩ := ht hr
    have hs : alH rows = ⟨[(0, [.own 2 rows.length]), (1, [dnF 0 1])], [(2, ⟨rows.map encR, 0, 1⟩)], 3⟩ := by unfold alH; rw [grA_own hr, grT_own hr, grN_own hr]
    have hs2 : alH rows2 = ⟨[(0, [.own 2 rows2.length]), (1, [dnF 0 1])], [(2, ⟨rows2.map encR, 0, 1⟩)], 3⟩ := by unfold alH; rw [grA_own h2, grT_own h2, grN_own h2]
    have hd : dnG i j t H.nx rows rows2 = ⟨[(i, [.own t rows2.length]), (j, [dnF i j])], [(t, ⟨rows2.map encR, 0, 1⟩)], H.nx⟩ := by unfold dnG; rw [if_neg (by simp [hr]), grA_own h2, grT_own h2]
    rw [hs, hs2] at hc
    rw [hd]
    rw [grA_own hr] at h0
    refine SCall.sub (hs := ⟨[(0, [.own 2 rows.length]), (1, [dnF 0 1])], [(2, ⟨rows.map encR, 0, 1⟩)], 3⟩) (rho [i, j, t]) (fun a b ha hb e => rho_inj (l := [i, j, t]) (by simp [hij, t3, t4]) a b ha hb e) (fun a ha => rho_lt (l := [i, j, t]) (by simp; omega) a ha)
      (.cons (gp_encO o).rn (.cons (.pure (pureS top)) (.cons (.ptr (by show 0 < 3; decide) rfl) (.cons (.ptr (by show 1 < 3; decide) rfl) .nil))))
      (allc ⟨by show 0 < 3; decide, _, h0, .cons (.own (by show 2 < 3; decide) rfl) .nil⟩ (allc ⟨by show 1 < 3; decide, _, h1, .cons (rn_dnF (by show 0 < 3; decide) (by show 1 < 3; decide) rfl rfl) .nil⟩ alln)) (allc ⟨by show 2 < 3; decide, _, t1, rfl, rfl, .pure (pure_rows pureR _)⟩ alln) hc ?_
    rintro r h' ⟨rfl, rfl⟩ hle
    refine ⟨.tup [], ⟨[(i, [.own t rows2.length]), (j, [dnF i j])], [(t, ⟨rows2.map encR, 0, 1⟩)], H.nx⟩, 0, Nat.le_refl _, rfl, .tup .nil, fun id cs' e => ?_, fun id k e => ?_, rfl, rfl⟩
    · simp only [lk] at e
      split at e
      · rename_i q; cases e; subst q
        exact .inl ⟨0, _, by show 0 < 3; decide, rfl, rfl, .cons (.own (by show 2 < 3; decide) rfl) .nil⟩
      · split at e
        · rename_i q; cases e; subst q
          exact .inl ⟨1, _, by show 1 < 3; decide, rfl, rfl, .cons (rn_dnF (by show 0 < 3; decide) (by show 1 < 3; decide) rfl rfl) .nil⟩
        · cases e
    · simp only [lk] at e
      split at e
      · rename_i q; cases e; subst q
        exact .inl ⟨2, _, by show 2 < 3; decide, rfl, rfl, rfl, rfl, .pure (pure_rows pureR _)⟩
      · cases e
end Go.Proofs.Ytfnmdmadaljjkaa
end

section
namespace Go.Proofs.Ytfnmdmadaljjkaa
open Go.Ab
set_option linter.unusedSimpArgs false
set_option linter.unusedVariables false
set_option maxRecDepth 20000
set_option maxHeartbeats 4000000

/-- An owned slice stays from now on, also within rows that are owned. -/
theorem wk_freezeT {σ σ' : St} {t : Nat} {k : Tk} (hk : lk σ.hp.toks t = some k) (hn : σ'.hp.nx = σ.hp.nx) (ht : σ'.nt = σ.nt)
    (h1 : ∀ g g', Ext g g' → Cv g g' (.own t k.xs.length) (.vec k.xs false) → ∀ p ∈ σ'.slots, ∃ b, lk σ.slots p.1 = some b ∧ Cv g g' b p.2)
    (h2 : ∀ g g', Ext g g' → Cv g g' (.own t k.xs.length) (.vec k.xs false) → ∀ p ∈ σ'.hp.boxes, ∃ cs, lk σ.hp.boxes p.1 = some cs ∧ CvL g g' cs p.2)
    (h3 : ∀ g, Cv g g (.own t k.xs.length) (.vec k.xs false) → ∀ p ∈ σ'.hp.toks, ∃ k', lk (up σ.hp.toks t ⟨k.xs, k.xs.length, k.s⟩) p.1 = some k' ∧ TkCv g k' p.2) : St.wk σ σ' := by
  intro g0 h0 w0 g w a r
  obtain ⟨g', s, c, ht'⟩ := Step1.freeze r.st.hp hk
  have c' : Cv g' g' (.own t k.xs.length) (.vec k.xs false) := fun v hv => by
    obtain ⟨b, cp, vs, ty, q1, q2, q3, q4, q5, q6, q7, q8, q9⟩ := r.st.hp.tok t k hk
    refine c v ?_
    cases hv with
    | own p1 p2 =>
      refine .own (r.st.hp.tok_lt hk |> fun q => by rw [r.st.hp.nx]; exact q) (fun b' c1 m e => ?_)
      exact p2 b' c1 m (by rw [ht']; exact e)
  refine ⟨g', r.conv s hn ht (h1 g g' s.ext c) (fun p hp => ?_) (h3 g' c')⟩
  obtain ⟨cs, k1, k2⟩ := h2 g' g' (.refl g') c' p hp
  exact ⟨cs, k1, k2⟩
def DnC (o : Option Tr) (top : Sk) (rows : List Sk) : Prop := SCall Try.prog 31 [encO o, encS top, .ptr 0 0, .ptr 1 0] (alH rows) (fun r h' => r = .tup [] ∧ h' = alH (rows ++ stkO o top))
theorem down_nil (top : Sk) (rows : List Sk) : DnC none top rows := by
  unfold DnC
  refine SCall_introC Try.func31 rfl Try.ntmps31 (rs := []) rfl (by simp) (N := (alH rows).nx) rfl ?_
  simp -implicitDefEqProofs only [awl, ne_eq, srcRows, awo, aggEq, eqF, litEq, andO, qwl, qwo, Go.Ab.qOp, lop, oneK, stepOp, pairO, pureOp, heapOp, entry, slotsOf, ev, evL, evP, evO, lk, up, St.put, St.drop, constAV, cellAV, cellsAV, plain, binV, nilCmp, intBin, strBin, guardBit, boolOf, fnOf, intOfAV, bound, resOf, retV, moved, rowOf, valAt, Kd.agg, AV.cells, splice, places, fillAV, rowsFill, Hp.none, ↓reduceIte, reduceCtorEq, Nat.reduceLT, Nat.reduceEqDiff, Nat.reduceAdd, Nat.reduceLeDiff, Nat.reducePow, Nat.reduceMul, Yzz, Xzz, Yzy, tyW, stkO, List.append_nil, encO, encS]
  exact ⟨_, St.wk.cp (St.wk.refl _), rfl⟩
def dnSl (ws : List Wy) (top : Sk) (i : Nat) : List (Nat × AV) :=
  [(28, .lit (.int .i64 (i : Int))), (27, .lit (.int .i64 (ws.length : Int))), (26, .vec (ws.map encW) false), (1, encS top), (2, .ptr 0 0), (3, .ptr 1 0)]
def dnS (ws : List Wy) (top : Sk) (r0 : List Sk) (i : Nat) (_ : Unit) : St := ⟨dnSl ws top i, alH (r0 ++ stkWs (ws.take i) top), 47⟩
theorem dn_rn {ρ : Nat → Nat} {n : Nat} (ws : List Wy) (top : Sk) (i : Nat) (h0 : 2 ≤ n) (e0 : ρ 0 = 0) (e1 : ρ 1 = 1) : ∀ p ∈ dnSl ws top i, lk (dnSl ws top i) p.1 = some p.2 ∧ Rn ρ n p.2 p.2 :=
  allc ⟨rfl, .pure (.lit _)⟩ (allc ⟨rfl, .pure (.lit _)⟩ (allc ⟨rfl, GP.rn (.vec (gp_encWs ws))⟩ (allc ⟨rfl, .pure (pureS top)⟩ (allc ⟨rfl, .ptr (by omega) e0⟩ (allc ⟨rfl, .ptr (by omega) e1⟩ alln)))))
theorem dn_cp {N nx : Nat} {A A2 : List Sk} (ws : List Wy) (top : Sk) (i : Nat) (hN : N = 2 ∨ N = 3 ∧ A ≠ []) (hsub : A ≠ [] → A2 ≠ []) (hnx : 3 ≤ nx) :
    St.cp N ⟨dnSl ws top i, dnG 0 1 2 nx A A2, 47⟩ ⟨dnSl ws top i, alH A2, 47⟩ := by
  by_cases hA : A = []
  · have hN2 : N = 2 := by rcases hN with h | h; exact h; exact absurd hA h.2
    subst hN2
    by_cases h2 : A2 = []
    · subst h2
      have e : dnG 0 1 2 nx A [] = ⟨[(0, [.vec [] true]), (1, [dnF 0 1])], [], nx⟩ := by simp [dnG, grA, grT]
      rw [e]
      exact cp_drop' (by show 2 ≤ 2; decide) (by show 2 ≤ nx; omega) rfl (dn_rn ws top i (by show 2 ≤ 2; decide) rfl rfl) (allc ⟨by show 0 < 2; decide, rfl, .pure (allc (.vec (by simp)) alln)⟩ (allc ⟨by show 1 < 2; decide, rfl, .cons (rn_dnF (by show 0 < 2; decide) (by show 1 < 2; decide) rfl rfl) .nil⟩ alln)) alln
    · have e : dnG 0 1 2 nx A A2 = ⟨[(0, [.own nx A2.length]), (1, [dnF 0 1])], [(nx, ⟨A2.map encR, 0, 1⟩)], nx + 1⟩ := by simp [dnG, hA, h2]
      have e2 : alH A2 = ⟨[(0, [.own 2 A2.length]), (1, [dnF 0 1])], [(2, ⟨A2.map encR, 0, 1⟩)], 3⟩ := by unfold alH; rw [grA_own h2, grT_own h2, grN_own h2]
      rw [e, e2]
      have c2 : cpn 2 [nx] 2 = nx := by simp [cpn]
      refine St.cp_of 2 [nx] (by show 2 ≤ nx + 1; omega) rfl rfl (by simp) (by simp; omega) (fun p hp => ⟨p.2, (dn_rn (ρ := cpn 2 [nx]) (n := 3) ws top i (by decide) rfl rfl p hp).1, (dn_rn (ρ := cpn 2 [nx]) (n := 3) ws top i (by decide) rfl rfl p hp).2⟩)
        (allc ⟨by show 0 < 3; decide, _, rfl, .cons (.own (by show 2 < 3; decide) c2) .nil⟩ (allc ⟨by show 1 < 3; decide, _, rfl, .cons (rn_dnF (by show 0 < 3; decide) (by show 1 < 3; decide) rfl rfl) .nil⟩ alln))
        (allc ⟨by show 2 < 3; decide, _, by rw [c2]; simp [lk], rfl, rfl, .pure (pure_rows pureR _)⟩ alln)
  · have h2 := hsub hA
    have e : dnG 0 1 2 nx A A2 = ⟨[(0, [.own 2 A2.length]), (1, [dnF 0 1])], [(2, ⟨A2.map encR, 0, 1⟩)], nx⟩ := by unfold dnG; rw [if_neg (by simp [hA]), grA_own h2, grT_own h2]
    have e2 : alH A2 = ⟨[(0, [.own 2 A2.length]), (1, [dnF 0 1])], [(2, ⟨A2.map encR, 0, 1⟩)], 3⟩ := by unfold alH; rw [grA_own h2, grT_own h2, grN_own h2]
    rw [e, e2]
    exact cp_drop' (by show N ≤ 3; omega) (by show 3 ≤ nx; omega) rfl (dn_rn ws top i (by show 2 ≤ 3; decide) rfl rfl) (allc ⟨by show 0 < 3; decide, rfl, .cons (.own (by show 2 < 3; decide) rfl) .nil⟩ (allc ⟨by show 1 < 3; decide, rfl, .cons (rn_dnF (by show 0 < 3; decide) (by show 1 < 3; decide) rfl rfl) .nil⟩ alln)) (allc ⟨by show 2 < 3; decide, rfl, .pure (pure_rows pureR _)⟩ alln)
theorem top_slice (top : Sk) : sliceV 2 (top.map encP) false none (some (top.length : Int)) (some (top.length : Int)) = some (.vec (top.map encP) true) := by
  have hr : ∀ q ∈ top.map encP, q.length = 2 := fun q hq => by obtain ⟨v, _, rfl⟩ := List.mem_map.1 hq; rfl
  unfold sliceV
  rw [if_pos ⟨by simp, by simp, by simp, by simp, by simp, hr⟩]
  simp [fullOf]
  exact List.take_of_length_le (by simp)
theorem downC_false (ws : List Wy) (top : Sk) (rows : List Sk) (ht : top.length ≤ 1000000000) (hw : ws.length ≤ 1000000000) (hN : rows.length + (stkT (.mk false ws) top).length ≤ 1000000000)
    (ih : ∀ w ∈ ws, ∀ rows' : List Sk, rows'.length + (stkT w.t (top ++ [(w.s, w.l)])).length ≤ 1000000000 → DnC (some w.t) (top ++ [(w.s, w.l)]) rows') : DnC (some (.mk false ws)) top rows := by
  unfold DnC
  refine SCall_introC Try.func31 rfl Try.ntmps31 (rs := []) rfl (by simp) (N := (alH rows).nx) rfl ?_
  simp -implicitDefEqProofs only [awl, ne_eq, srcRows, awo, aggEq, eqF, litEq, andO, qwl, qwo, Go.Ab.qOp, lop, oneK, stepOp, pairO, pureOp, heapOp, entry, slotsOf, ev, evL, evP, evO, lk, up, St.put, St.drop, constAV, cellAV, cellsAV, plain, binV, nilCmp, intBin, strBin, guardBit, boolOf, fnOf, intOfAV, bound, resOf, retV, moved, rowOf, valAt, Kd.agg, AV.cells, splice, places, fillAV, rowsFill, Hp.none, ↓reduceIte, reduceCtorEq, Nat.reduceLT, Nat.reduceEqDiff, Nat.reduceAdd, Nat.reduceLeDiff, Nat.reducePow, Nat.reduceMul, Yzz, Xzz, Yzy, tyW, stkO, encO, encS, encT_eq, encWs_map, List.length_map]
  refine aw_forE ws.length (alH rows).nx (dnS ws top rows) (fun _ _ => True) (Nat.le_refl _) () ?_ trivial (fun i _ hlt _ => ?_) (fun _ _ => ?_)
  · have e : dnS ws top rows 0 () = ⟨dnSl ws top 0, alH rows, 47⟩ := by simp [dnS, stkWs]
    rw [e]
    exact St.wk.cp (St.wk_slots (by simp [lk, dnSl, encS]))
  · have i1 : (i : Int) < (ws.length : Int) := by omega
    have ncast : ∀ n : Nat, (0 : Int) ≤ (n : Int) := Int.natCast_nonneg
    obtain ⟨w, hwi⟩ : ∃ w, ws[i]? = some w := ⟨_, List.getElem?_eq_getElem hlt⟩
    have hwm := List.mem_of_getElem? hwi
    have gw := map_getD encW hwi
    have ew := encW_eq w
    rw [ew] at gw
    have tk : ws.take (i + 1) = ws.take i ++ [w] := by rw [List.take_add_one, hwi]; rfl
    have hcount : (stkWs (ws.take (i + 1)) top).length ≤ (stkWs ws top).length := by
      have := congrArg List.length (stkWs_app (ws.take (i + 1)) (ws.drop (i + 1)) top)
      rw [List.take_append_drop, List.length_append] at this
      omega
    have r2 : ∀ q ∈ top.map encP, q.length = 2 := fun q hq => by obtain ⟨v, _, rfl⟩ := List.mem_map.1 hq; rfl
    have hft : fits (top.length + 1) 16 := fits_of' (by omega) (by omega)
    have tsl := top_slice top
    unfold dnS
    rw [tk, stkWs_app] at *
    simp only [stkWs, List.append_nil, stkW_t] at *
    rw [← List.append_assoc]
    have hA1 : rows ≠ [] → rows ++ stkWs (ws.take i) top ≠ [] := fun h e => h (List.append_eq_nil_iff.1 e).1
    have hNA : (rows ++ stkWs (ws.take i) top).length + (stkT w.t (top ++ [(w.s, w.l)])).length ≤ 1000000000 := by
      simp only [stkT, List.length_append, List.length_cons, List.length_nil, if_true, if_false, Bool.false_eq_true] at hN hcount ⊢
      omega
    generalize hAe : rows ++ stkWs (ws.take i) top = A at hNA hA1 ⊢
    have hsub : A ≠ [] → A ++ stkT w.t (top ++ [(w.s, w.l)]) ≠ [] := fun h e => h (List.append_eq_nil_iff.1 e).1
    by_cases hA : A = []
    · have hr : rows = [] := Classical.byContradiction fun h => hA1 h hA
      have hN2 : (alH rows).nx = 2 ∨ (alH rows).nx = 3 ∧ A ≠ [] := .inl (by rw [hr]; rfl)
      subst hA
      have alE : alH [] = ⟨[(0, [.vec [] true]), (1, [dnF 0 1])], [], 2⟩ := rfl
      simp -implicitDefEqProofs only [awl, ne_eq, srcRows, awo, aggEq, eqF, litEq, andO, qwl, qwo, Go.Ab.qOp, lop, oneK, stepOp, pairO, pureOp, heapOp, entry, slotsOf, ev, evL, evP, evO, lk, up, St.put, St.drop, constAV, cellAV, cellsAV, plain, binV, nilCmp, intBin, strBin, guardBit, boolOf, fnOf, intOfAV, bound, resOf, retV, moved, rowOf, valAt, Kd.agg, AV.cells, splice, places, fillAV, rowsFill, Hp.none, ↓reduceIte, reduceCtorEq, Nat.reduceLT, Nat.reduceEqDiff, Nat.reduceAdd, Nat.reduceLeDiff, Nat.reducePow, Nat.reduceMul, Yzz, Xzz, Yzy, tyW, alE, dnF, dnSl, encS, List.length_map, i1, decide_true, ncast, Int.toNat_natCast, gw, tyDown]
      refine aw_drawH (n := 47) (σ' := ⟨dnSl ws top i, dnG 0 1 2 4 [] ([] ++ stkT w.t (top ++ [(w.s, w.l)])), 47⟩) 4 12 (.alt 13 .leaf .nil) rfl rfl (by decide) (by decide) (by decide) mixed (by kernel_rfl) (by decide) ?_ ?_
      · simp -implicitDefEqProofs only [awl, ne_eq, srcRows, awo, aggEq, eqF, litEq, andO, qwl, qwo, Go.Ab.qOp, lop, oneK, stepOp, pairO, pureOp, heapOp, entry, slotsOf, ev, evL, evP, evO, lk, up, St.put, St.drop, constAV, cellAV, cellsAV, plain, binV, nilCmp, intBin, strBin, guardBit, boolOf, fnOf, intOfAV, bound, resOf, retV, moved, rowOf, valAt, Kd.agg, AV.cells, splice, places, fillAV, rowsFill, Hp.none, ↓reduceIte, reduceCtorEq, Nat.reduceLT, Nat.reduceEqDiff, Nat.reduceAdd, Nat.reduceLeDiff, Nat.reducePow, Nat.reduceMul, Yzz, Xzz, Yzy, tyW, dnF, ncast, Int.toNat_natCast, tyDown, List.length_map, tsl, List.mem_singleton, forall_eq, List.not_mem_nil, false_imp_iff, implies_true, eq_true r2, hft, and_self, if_true]
        refine And.intro (grows_rfl (by simp [lk])) ?_
        try simp -implicitDefEqProofs only [awl, ne_eq, srcRows, awo, aggEq, eqF, litEq, andO, qwl, qwo, Go.Ab.qOp, lop, oneK, stepOp, pairO, pureOp, heapOp, entry, slotsOf, ev, evL, evP, evO, lk, up, St.put, St.drop, constAV, cellAV, cellsAV, plain, binV, nilCmp, intBin, strBin, guardBit, boolOf, fnOf, intOfAV, bound, resOf, retV, moved, rowOf, valAt, Kd.agg, AV.cells, splice, places, fillAV, rowsFill, Hp.none, ↓reduceIte, reduceCtorEq, Nat.reduceLT, Nat.reduceEqDiff, Nat.reduceAdd, Nat.reduceLeDiff, Nat.reducePow, Nat.reduceMul, Yzz, Xzz, Yzy, tyW]
        refine CallK.freeze (t := 3) (k := ⟨top.map encP ++ [encP (w.s, w.l)], 0, 2⟩) (args1 := [encT w.t, encS (top ++ [(w.s, w.l)]), .ptr 0 0, .ptr 1 0]) ?_ (fun g g' x c => cvL_cons (cv_refl x _) (cvL_cons (by simpa [encS] using c) (cvL_cons (cv_refl x _) (cvL_cons (cv_refl x _) cvL_nil)))) ?_
        · rfl
        refine CallK_of call31 (down_at (i := 0) (j := 1) (t := 2) (o := some w.t) (ih w hwm [] hNA) hsub (by decide) (by show 0 < 4; decide) (by show 1 < 4; decide) rfl rfl (fun h => absurd rfl h)) ?_
        rintro rv h' ⟨rfl, rfl⟩
        simp -implicitDefEqProofs only [awl, ne_eq, srcRows, awo, aggEq, eqF, litEq, andO, qwl, qwo, Go.Ab.qOp, lop, oneK, stepOp, pairO, pureOp, heapOp, entry, slotsOf, ev, evL, evP, evO, lk, up, St.put, St.drop, constAV, cellAV, cellsAV, plain, binV, nilCmp, intBin, strBin, guardBit, boolOf, fnOf, intOfAV, bound, resOf, retV, moved, rowOf, valAt, Kd.agg, AV.cells, splice, places, fillAV, rowsFill, Hp.none, ↓reduceIte, reduceCtorEq, Nat.reduceLT, Nat.reduceEqDiff, Nat.reduceAdd, Nat.reduceLeDiff, Nat.reducePow, Nat.reduceMul, Yzz, Xzz, Yzy, tyW]
        exact St.wk.cp (St.wk_slots (by simp [lk, dnSl, encS]))
      · simp -implicitDefEqProofs (disch := omega) only [awl, ne_eq, srcRows, awo, aggEq, eqF, litEq, andO, qwl, qwo, Go.Ab.qOp, lop, oneK, stepOp, pairO, pureOp, heapOp, entry, slotsOf, ev, evL, evP, evO, lk, up, St.put, St.drop, constAV, cellAV, cellsAV, plain, binV, nilCmp, intBin, strBin, guardBit, boolOf, fnOf, intOfAV, bound, resOf, retV, moved, rowOf, valAt, Kd.agg, AV.cells, splice, places, fillAV, rowsFill, Hp.none, ↓reduceIte, reduceCtorEq, Nat.reduceLT, Nat.reduceEqDiff, Nat.reduceAdd, Nat.reduceLeDiff, Nat.reducePow, Nat.reduceMul, Yzz, Xzz, Yzy, tyW, dnSl, i64w]
        exact ⟨(), St.cp.trans (St.wk.cp (St.wk_slots (sl' := dnSl ws top (i + 1)) (by simp [lk, dnSl]))) (dn_cp (nx := 4) ws top (i + 1) hN2 hsub (by decide))⟩
    · have hN2 : (alH rows).nx = 2 ∨ (alH rows).nx = 3 ∧ A ≠ [] := by
        by_cases hr : rows = []
        · exact .inl (by rw [hr]; rfl)
        · exact .inr ⟨grN_own hr, hA⟩
      have alE : alH A = ⟨[(0, [.own 2 A.length]), (1, [dnF 0 1])], [(2, ⟨A.map encR, 0, 1⟩)], 3⟩ := by unfold alH; rw [grA_own hA, grT_own hA, grN_own hA]
      simp -implicitDefEqProofs only [awl, ne_eq, srcRows, awo, aggEq, eqF, litEq, andO, qwl, qwo, Go.Ab.qOp, lop, oneK, stepOp, pairO, pureOp, heapOp, entry, slotsOf, ev, evL, evP, evO, lk, up, St.put, St.drop, constAV, cellAV, cellsAV, plain, binV, nilCmp, intBin, strBin, guardBit, boolOf, fnOf, intOfAV, bound, resOf, retV, moved, rowOf, valAt, Kd.agg, AV.cells, splice, places, fillAV, rowsFill, Hp.none, ↓reduceIte, reduceCtorEq, Nat.reduceLT, Nat.reduceEqDiff, Nat.reduceAdd, Nat.reduceLeDiff, Nat.reducePow, Nat.reduceMul, Yzz, Xzz, Yzy, tyW, alE, dnF, dnSl, encS, List.length_map, i1, decide_true, ncast, Int.toNat_natCast, gw, tyDown]
      refine aw_drawH (n := 47) (σ' := ⟨dnSl ws top i, dnG 0 1 2 5 A (A ++ stkT w.t (top ++ [(w.s, w.l)])), 47⟩) 5 12 (.alt 13 .leaf .nil) rfl rfl (by decide) (by decide) (by decide) mixed (by kernel_rfl) (by decide) ?_ ?_
      · simp -implicitDefEqProofs only [awl, ne_eq, srcRows, awo, aggEq, eqF, litEq, andO, qwl, qwo, Go.Ab.qOp, lop, oneK, stepOp, pairO, pureOp, heapOp, entry, slotsOf, ev, evL, evP, evO, lk, up, St.put, St.drop, constAV, cellAV, cellsAV, plain, binV, nilCmp, intBin, strBin, guardBit, boolOf, fnOf, intOfAV, bound, resOf, retV, moved, rowOf, valAt, Kd.agg, AV.cells, splice, places, fillAV, rowsFill, Hp.none, ↓reduceIte, reduceCtorEq, Nat.reduceLT, Nat.reduceEqDiff, Nat.reduceAdd, Nat.reduceLeDiff, Nat.reducePow, Nat.reduceMul, Yzz, Xzz, Yzy, tyW, dnF, ncast, Int.toNat_natCast, tyDown, List.length_map, tsl, List.mem_singleton, forall_eq, List.not_mem_nil, false_imp_iff, implies_true, eq_true r2, hft, and_self, if_true]
        refine And.intro (grows_rfl (by simp [lk])) ?_
        try simp -implicitDefEqProofs only [awl, ne_eq, srcRows, awo, aggEq, eqF, litEq, andO, qwl, qwo, Go.Ab.qOp, lop, oneK, stepOp, pairO, pureOp, heapOp, entry, slotsOf, ev, evL, evP, evO, lk, up, St.put, St.drop, constAV, cellAV, cellsAV, plain, binV, nilCmp, intBin, strBin, guardBit, boolOf, fnOf, intOfAV, bound, resOf, retV, moved, rowOf, valAt, Kd.agg, AV.cells, splice, places, fillAV, rowsFill, Hp.none, ↓reduceIte, reduceCtorEq, Nat.reduceLT, Nat.reduceEqDiff, Nat.reduceAdd, Nat.reduceLeDiff, Nat.reducePow, Nat.reduceMul, Yzz, Xzz, Yzy, tyW]
        refine CallK.freeze (t := 4) (k := ⟨top.map encP ++ [encP (w.s, w.l)], 0, 2⟩) (args1 := [encT w.t, encS (top ++ [(w.s, w.l)]), .ptr 0 0, .ptr 1 0]) ?_ (fun g g' x c => cvL_cons (cv_refl x _) (cvL_cons (by simpa [encS] using c) (cvL_cons (cv_refl x _) (cvL_cons (cv_refl x _) cvL_nil)))) ?_
        · rfl
        refine CallK_of call31 (down_at (i := 0) (j := 1) (t := 2) (o := some w.t) (ih w hwm A hNA) hsub (by decide) (by show 0 < 5; decide) (by show 1 < 5; decide) (by rw [grA_own hA]; rfl) rfl (fun _ => ⟨rfl, by show 2 < 5; decide, by decide, by decide⟩)) ?_
        rintro rv h' ⟨rfl, rfl⟩
        simp -implicitDefEqProofs only [awl, ne_eq, srcRows, awo, aggEq, eqF, litEq, andO, qwl, qwo, Go.Ab.qOp, lop, oneK, stepOp, pairO, pureOp, heapOp, entry, slotsOf, ev, evL, evP, evO, lk, up, St.put, St.drop, constAV, cellAV, cellsAV, plain, binV, nilCmp, intBin, strBin, guardBit, boolOf, fnOf, intOfAV, bound, resOf, retV, moved, rowOf, valAt, Kd.agg, AV.cells, splice, places, fillAV, rowsFill, Hp.none, ↓reduceIte, reduceCtorEq, Nat.reduceLT, Nat.reduceEqDiff, Nat.reduceAdd, Nat.reduceLeDiff, Nat.reducePow, Nat.reduceMul, Yzz, Xzz, Yzy, tyW]
        exact St.wk.cp (St.wk_slots (by simp [lk, dnSl, encS]))
      · simp -implicitDefEqProofs (disch := omega) only [awl, ne_eq, srcRows, awo, aggEq, eqF, litEq, andO, qwl, qwo, Go.Ab.qOp, lop, oneK, stepOp, pairO, pureOp, heapOp, entry, slotsOf, ev, evL, evP, evO, lk, up, St.put, St.drop, constAV, cellAV, cellsAV, plain, binV, nilCmp, intBin, strBin, guardBit, boolOf, fnOf, intOfAV, bound, resOf, retV, moved, rowOf, valAt, Kd.agg, AV.cells, splice, places, fillAV, rowsFill, Hp.none, ↓reduceIte, reduceCtorEq, Nat.reduceLT, Nat.reduceEqDiff, Nat.reduceAdd, Nat.reduceLeDiff, Nat.reducePow, Nat.reduceMul, Yzz, Xzz, Yzy, tyW, dnSl, i64w]
        exact ⟨(), St.cp.trans (St.wk.cp (St.wk_slots (sl' := dnSl ws top (i + 1)) (by simp [lk, dnSl]))) (dn_cp (nx := 5) ws top (i + 1) hN2 hsub (by decide))⟩
  · have i1 : ¬ (ws.length : Int) < (ws.length : Int) := by omega
    simp -implicitDefEqProofs only [awl, ne_eq, srcRows, awo, aggEq, eqF, litEq, andO, qwl, qwo, Go.Ab.qOp, lop, oneK, stepOp, pairO, pureOp, heapOp, entry, slotsOf, ev, evL, evP, evO, lk, up, St.put, St.drop, constAV, cellAV, cellsAV, plain, binV, nilCmp, intBin, strBin, guardBit, boolOf, fnOf, intOfAV, bound, resOf, retV, moved, rowOf, valAt, Kd.agg, AV.cells, splice, places, fillAV, rowsFill, Hp.none, ↓reduceIte, reduceCtorEq, Nat.reduceLT, Nat.reduceEqDiff, Nat.reduceAdd, Nat.reduceLeDiff, Nat.reducePow, Nat.reduceMul, Yzz, Xzz, Yzy, tyW, dnS, dnSl, i1, decide_false, List.take_length]
    refine ⟨_, St.wk.cp (St.wk.refl _), ?_⟩
    show alH _ = alH _
    simp [stkO, stkT]
def alG (q nx : Nat) (rows : List Sk) : Hp := ⟨[(0, [.own q rows.length]), (1, [dnF 0 1])], [(q, ⟨rows.map encR, 0, 1⟩)], nx⟩
def dnS2 (q nx : Nat) (ws : List Wy) (top : Sk) (r0 : List Sk) (i : Nat) (_ : Unit) : St := ⟨dnSl ws top i, alG q nx (r0 ++ stkWs (ws.take i) top), 47⟩
theorem dnS2_zero (q nx : Nat) (ws : List Wy) (top : Sk) (r0 : List Sk) : dnS2 q nx ws top r0 0 () = ⟨dnSl ws top 0, alG q nx r0, 47⟩ := by simp [dnS2, stkWs]
theorem pre_vec {σ : St} {ws : List Wy} {top : Sk} {rows : List Sk} {fl : Bool} (hT : top = []) (hs : ∀ p ∈ dnSl ws top 0, lk σ.slots p.1 = some p.2) (h0 : lk σ.hp.boxes 0 = some [.own 2 (rows.length + 1)]) (h1 : lk σ.hp.boxes 1 = some [dnF 0 1])
    (ht : lk σ.hp.toks 2 = some ⟨rows.map encR ++ [[.vec [] fl]], 0, 1⟩) (hn : σ.hp.nx = 3) (hnt : σ.nt = 47) : St.wk σ (dnS2 2 3 ws top (rows ++ [top.reverse]) 0 ()) := by
  rw [dnS2_zero]
  have hl : (rows ++ [top.reverse]).length = rows.length + 1 := by simp
  unfold alG
  rw [hl]
  refine St.wk_conv hn.symm hnt.symm (fun g g' x p hp => ⟨_, hs p hp, cv_refl x _⟩) (fun g g' x => allc ⟨_, h0, cvL_refl x _⟩ (allc ⟨_, h1, cvL_refl x _⟩ alln)) (fun g => allc ⟨_, ht, ⟨rfl, rfl, ?_⟩⟩ alln)
  show CvR g g (rows.map encR ++ [[.vec [] fl]]) ((rows ++ [top.reverse]).map encR)
  rw [List.map_append, hT]
  exact CvR.snoc (CvR.refl (.refl g) _) (cvL_cons (cv_full (.refl g) _ _) cvL_nil) rfl
theorem pre_own {σ : St} {q T m : Nat} {ws : List Wy} {top : Sk} {rows : List Sk} (hs : ∀ p ∈ dnSl ws top 0, lk σ.slots p.1 = some p.2) (h0 : lk σ.hp.boxes 0 = some [.own q (rows.length + 1)]) (h1 : lk σ.hp.boxes 1 = some [dnF 0 1])
    (ht : lk σ.hp.toks q = some ⟨rows.map encR ++ [[.own T m]], 0, 1⟩) (hT : lk σ.hp.toks T = some ⟨top.reverse.map encP, 0, 2⟩) (hm : m = top.length) (hqT : q ≠ T) (hn : σ.hp.nx = 4) (hnt : σ.nt = 47) :
    St.wk σ (dnS2 q 4 ws top (rows ++ [top.reverse]) 0 ()) := by
  subst hm
  have e1 : (top.reverse.map encP).length = top.length := by simp
  have hl : (rows ++ [top.reverse]).length = rows.length + 1 := by simp
  rw [dnS2_zero]
  unfold alG
  rw [hl]
  refine wk_freezeT hT hn.symm hnt.symm (fun g g' x c p hp => ⟨_, hs p hp, cv_refl x _⟩) (fun g g' x c => allc ⟨_, h0, cvL_refl x _⟩ (allc ⟨_, h1, cvL_refl x _⟩ alln)) (fun g c => allc ⟨⟨rows.map encR ++ [[.own T top.length]], 0, 1⟩, ?_, ⟨rfl, rfl, ?_⟩⟩ alln)
  · rw [lk_up, if_neg (Ne.symm hqT)]; exact ht
  · show CvR g g (rows.map encR ++ [[.own T top.length]]) ((rows ++ [top.reverse]).map encR)
    rw [List.map_append]
    refine CvR.snoc (CvR.refl (.refl g) _) (cvL_cons ?_ cvL_nil) rfl
    have c := c
    simp only [e1] at c
    exact c
theorem fin_cp {σ : St} {N q nx : Nat} {A : List Sk} (hσ : σ.hp = alG q nx A) (hA : A ≠ []) (hq : q < nx) (hnx : 3 ≤ nx) (hN : N = 2 ∧ 2 ≤ q ∨ N = 3 ∧ q = 2) : ∃ σ', St.cp N σ σ' ∧ σ'.hp = alH A := by
  have e : alH A = ⟨[(0, [.own 2 A.length]), (1, [dnF 0 1])], [(2, ⟨A.map encR, 0, 1⟩)], 3⟩ := by unfold alH; rw [grA_own hA, grT_own hA, grN_own hA]
  refine ⟨⟨[], alH A, σ.nt⟩, ?_, rfl⟩
  rw [e]
  by_cases hq2 : q = 2
  · subst hq2
    have hN3 : N ≤ 3 := by omega
    exact cp_drop' hN3 (by rw [hσ]; exact hnx) rfl alln (by rw [hσ]; exact allc ⟨by show 0 < 3; decide, rfl, .cons (.own (by show 2 < 3; decide) rfl) .nil⟩ (allc ⟨by show 1 < 3; decide, rfl, .cons (rn_dnF (by show 0 < 3; decide) (by show 1 < 3; decide) rfl rfl) .nil⟩ alln)) (by rw [hσ]; exact allc ⟨by show 2 < 3; decide, rfl, .pure (pure_rows pureR _)⟩ alln)
  · have hN2 : N = 2 := by omega
    subst hN2
    have c2 : cpn 2 [q] 2 = q := by simp [cpn]
    exact St.cp_of 2 [q] (by rw [hσ]; show 2 ≤ nx; omega) rfl rfl (by simp) (by rw [hσ]; simp [alG]; omega) alln
      (by rw [hσ]; exact allc ⟨by show 0 < 3; decide, _, rfl, .cons (.own (by show 2 < 3; decide) c2) .nil⟩ (allc ⟨by show 1 < 3; decide, _, rfl, .cons (rn_dnF (by show 0 < 3; decide) (by show 1 < 3; decide) rfl rfl) .nil⟩ alln))
      (by rw [hσ]; exact allc ⟨by show 2 < 3; decide, _, by rw [c2]; simp [lk, alG], rfl, rfl, .pure (pure_rows pureR _)⟩ alln)
theorem downC_true (ws : List Wy) (top : Sk) (rows : List Sk) (hrev : RevC top) (ht : top.length ≤ 1000000000) (hw : ws.length ≤ 1000000000) (hN : rows.length + (stkT (.mk true ws) top).length ≤ 1000000000)
    (ih : ∀ w ∈ ws, ∀ rows' : List Sk, rows'.length + (stkT w.t (top ++ [(w.s, w.l)])).length ≤ 1000000000 → DnC (some w.t) (top ++ [(w.s, w.l)]) rows') : DnC (some (.mk true ws)) top rows := by
  unfold DnC
  have hcs : top = [] ∨ ∃ z y, top = z :: y := by cases top with | nil => exact .inl rfl | cons z y => exact .inr ⟨z, y, rfl⟩
  by_cases hr : rows = []
  · subst hr
    rcases hcs with hT | ⟨z, y, hT⟩
    · have em : top.map encP = [] := by rw [hT]; rfl
      have alE0 : alH ([] : List Sk) = ⟨[(0, [.vec [] true]), (1, [dnF 0 1])], [], 2⟩ := rfl
      have hf1 : fits 1 24 := by decide
      refine SCall_introC Try.func31 rfl Try.ntmps31 (rs := []) rfl (by simp) (N := (alH ([] : List Sk)).nx) rfl ?_
      simp -implicitDefEqProofs only [awl, ne_eq, srcRows, awo, aggEq, eqF, litEq, andO, qwl, qwo, Go.Ab.qOp, lop, oneK, stepOp, pairO, pureOp, heapOp, entry, slotsOf, ev, evL, evP, evO, lk, up, St.put, St.drop, constAV, cellAV, cellsAV, plain, binV, nilCmp, intBin, strBin, guardBit, boolOf, fnOf, intOfAV, bound, resOf, retV, moved, rowOf, valAt, Kd.agg, AV.cells, splice, places, fillAV, rowsFill, Hp.none, ↓reduceIte, reduceCtorEq, Nat.reduceLT, Nat.reduceEqDiff, Nat.reduceAdd, Nat.reduceLeDiff, Nat.reducePow, Nat.reduceMul, Yzz, Xzz, Yzy, tyW, alE0, encO, encS, encT_eq, encWs_map, em]
      refine CallK_pure call32 (clone_nil false) (allc (.vec (by simp)) alln) (.vec (by simp)) ?_
      simp -implicitDefEqProofs only [awl, ne_eq, srcRows, awo, aggEq, eqF, litEq, andO, qwl, qwo, Go.Ab.qOp, lop, oneK, stepOp, pairO, pureOp, heapOp, entry, slotsOf, ev, evL, evP, evO, lk, up, St.put, St.drop, constAV, cellAV, cellsAV, plain, binV, nilCmp, intBin, strBin, guardBit, boolOf, fnOf, intOfAV, bound, resOf, retV, moved, rowOf, valAt, Kd.agg, AV.cells, splice, places, fillAV, rowsFill, Hp.none, ↓reduceIte, reduceCtorEq, Nat.reduceLT, Nat.reduceEqDiff, Nat.reduceAdd, Nat.reduceLeDiff, Nat.reducePow, Nat.reduceMul, Yzz, Xzz, Yzy, tyW]
      refine CallK_pure call33 (reverse_nil true) (allc (.vec (by simp)) alln) (.tup (by simp)) ?_
      simp -implicitDefEqProofs only [awl, ne_eq, srcRows, awo, aggEq, eqF, litEq, andO, qwl, qwo, Go.Ab.qOp, lop, oneK, stepOp, pairO, pureOp, heapOp, entry, slotsOf, ev, evL, evP, evO, lk, up, St.put, St.drop, constAV, cellAV, cellsAV, plain, binV, nilCmp, intBin, strBin, guardBit, boolOf, fnOf, intOfAV, bound, resOf, retV, moved, rowOf, valAt, Kd.agg, AV.cells, splice, places, fillAV, rowsFill, Hp.none, ↓reduceIte, reduceCtorEq, Nat.reduceLT, Nat.reduceEqDiff, Nat.reduceAdd, Nat.reduceLeDiff, Nat.reducePow, Nat.reduceMul, Yzz, Xzz, Yzy, tyW, hf1, List.mem_singleton, forall_eq, List.not_mem_nil, false_imp_iff, implies_true, and_self, if_true, if_false, List.map_cons, List.map_nil, List.length_cons, List.length_nil, List.length_map, List.nil_append, List.cons_append, Nat.zero_add, Nat.reduceAdd]
      refine aw_forE ws.length 3 (dnS2 2 3 ws top (([] : List Sk) ++ [top.reverse])) (fun _ _ => True) (Nat.le_refl _) () ?_ trivial (fun i _ hlt _ => ?_) (fun _ _ => ?_)
      · exact (pre_vec (ws := ws) (top := top) (rows := ([] : List Sk)) (fl := true) hT (by simp [lk, dnSl, encS, em]) rfl rfl rfl rfl rfl).cp
      · have i1 : (i : Int) < (ws.length : Int) := by omega
        have ncast : ∀ n : Nat, (0 : Int) ≤ (n : Int) := Int.natCast_nonneg
        obtain ⟨w, hwi⟩ : ∃ w, ws[i]? = some w := ⟨_, List.getElem?_eq_getElem hlt⟩
        have hwm := List.mem_of_getElem? hwi
        have gw := map_getD encW hwi
        have ew := encW_eq w
        rw [ew] at gw
        have tk : ws.take (i + 1) = ws.take i ++ [w] := by rw [List.take_add_one, hwi]; rfl
        have hcount : (stkWs (ws.take (i + 1)) top).length ≤ (stkWs ws top).length := by
          have := congrArg List.length (stkWs_app (ws.take (i + 1)) (ws.drop (i + 1)) top)
          rw [List.take_append_drop, List.length_append] at this
          omega
        have r2 : ∀ q ∈ top.map encP, q.length = 2 := fun q hq => by obtain ⟨v, _, rfl⟩ := List.mem_map.1 hq; rfl
        have hft : fits (top.length + 1) 16 := fits_of' (by omega) (by omega)
        have tsl := top_slice top
        have hA : (([] : List Sk) ++ [top.reverse]) ++ stkWs (ws.take i) top ≠ [] := by simp
        have hNA : ((([] : List Sk) ++ [top.reverse]) ++ stkWs (ws.take i) top).length + (stkT w.t (top ++ [(w.s, w.l)])).length ≤ 1000000000 := by
          rw [tk, stkWs_app] at hcount
          simp only [stkWs, List.append_nil, stkW_t] at hcount
          simp only [stkT, List.length_append, List.length_cons, List.length_nil, if_true] at hN hcount ⊢
          omega
        unfold dnS2
        rw [tk, stkWs_app]
        simp only [stkWs, List.append_nil, stkW_t]
        rw [← List.append_assoc]
        generalize (([] : List Sk) ++ [top.reverse]) ++ stkWs (ws.take i) top = A at hNA hA ⊢
        have hsub : A ≠ [] → A ++ stkT w.t (top ++ [(w.s, w.l)]) ≠ [] := fun h e => h (List.append_eq_nil_iff.1 e).1
        have h2 := hsub hA
        have dG : ∀ nx, dnG 0 1 2 nx A (A ++ stkO (some w.t) (top ++ [(w.s, w.l)])) = alG 2 nx (A ++ stkT w.t (top ++ [(w.s, w.l)])) := fun nx => by show dnG 0 1 2 nx A (A ++ stkT w.t (top ++ [(w.s, w.l)])) = _; unfold dnG alG; rw [if_neg (by simp [hA]), grA_own h2, grT_own h2]
        simp -implicitDefEqProofs only [awl, ne_eq, srcRows, awo, aggEq, eqF, litEq, andO, qwl, qwo, Go.Ab.qOp, lop, oneK, stepOp, pairO, pureOp, heapOp, entry, slotsOf, ev, evL, evP, evO, lk, up, St.put, St.drop, constAV, cellAV, cellsAV, plain, binV, nilCmp, intBin, strBin, guardBit, boolOf, fnOf, intOfAV, bound, resOf, retV, moved, rowOf, valAt, Kd.agg, AV.cells, splice, places, fillAV, rowsFill, Hp.none, ↓reduceIte, reduceCtorEq, Nat.reduceLT, Nat.reduceEqDiff, Nat.reduceAdd, Nat.reduceLeDiff, Nat.reducePow, Nat.reduceMul, Yzz, Xzz, Yzy, tyW, alG, dnF, dnSl, encS, List.length_map, i1, decide_true, ncast, Int.toNat_natCast, gw, tyDown]
        refine aw_drawH (n := 47) (σ' := ⟨dnSl ws top i, alG 2 5 (A ++ stkT w.t (top ++ [(w.s, w.l)])), 47⟩) 5 12 (.alt 13 .leaf .nil) rfl rfl (by decide) (by decide) (by decide) mixed (by kernel_rfl) (by decide) ?_ ?_
        · simp -implicitDefEqProofs only [awl, ne_eq, srcRows, awo, aggEq, eqF, litEq, andO, qwl, qwo, Go.Ab.qOp, lop, oneK, stepOp, pairO, pureOp, heapOp, entry, slotsOf, ev, evL, evP, evO, lk, up, St.put, St.drop, constAV, cellAV, cellsAV, plain, binV, nilCmp, intBin, strBin, guardBit, boolOf, fnOf, intOfAV, bound, resOf, retV, moved, rowOf, valAt, Kd.agg, AV.cells, splice, places, fillAV, rowsFill, Hp.none, ↓reduceIte, reduceCtorEq, Nat.reduceLT, Nat.reduceEqDiff, Nat.reduceAdd, Nat.reduceLeDiff, Nat.reducePow, Nat.reduceMul, Yzz, Xzz, Yzy, tyW, dnF, ncast, Int.toNat_natCast, tyDown, List.length_map, tsl, List.mem_singleton, forall_eq, List.not_mem_nil, false_imp_iff, implies_true, eq_true r2, hft, and_self, if_true]
          refine And.intro (grows_rfl (by simp [lk])) ?_
          refine CallK.freeze (t := 4) (k := ⟨top.map encP ++ [encP (w.s, w.l)], 0, 2⟩) (args1 := [encT w.t, encS (top ++ [(w.s, w.l)]), .ptr 0 0, .ptr 1 0]) ?_ (fun g g' x c => cvL_cons (cv_refl x _) (cvL_cons (by simpa [encS] using c) (cvL_cons (cv_refl x _) (cvL_cons (cv_refl x _) cvL_nil)))) ?_
          · rfl
          refine CallK_of call31 (down_at (i := 0) (j := 1) (t := 2) (o := some w.t) (ih w hwm A hNA) hsub (by decide) (by show 0 < 5; decide) (by show 1 < 5; decide) (by rw [grA_own hA]; rfl) rfl (fun _ => ⟨rfl, by show 2 < 5; decide, by decide, by decide⟩)) ?_
          rintro rv h' ⟨rfl, rfl⟩
          simp -implicitDefEqProofs only [awl, ne_eq, srcRows, awo, aggEq, eqF, litEq, andO, qwl, qwo, Go.Ab.qOp, lop, oneK, stepOp, pairO, pureOp, heapOp, entry, slotsOf, ev, evL, evP, evO, lk, up, St.put, St.drop, constAV, cellAV, cellsAV, plain, binV, nilCmp, intBin, strBin, guardBit, boolOf, fnOf, intOfAV, bound, resOf, retV, moved, rowOf, valAt, Kd.agg, AV.cells, splice, places, fillAV, rowsFill, Hp.none, ↓reduceIte, reduceCtorEq, Nat.reduceLT, Nat.reduceEqDiff, Nat.reduceAdd, Nat.reduceLeDiff, Nat.reducePow, Nat.reduceMul, Yzz, Xzz, Yzy, tyW]
          rw [dG]
          exact St.wk.cp (St.wk_slots (by simp [lk, dnSl, encS]))
        · simp -implicitDefEqProofs (disch := omega) only [awl, ne_eq, srcRows, awo, aggEq, eqF, litEq, andO, qwl, qwo, Go.Ab.qOp, lop, oneK, stepOp, pairO, pureOp, heapOp, entry, slotsOf, ev, evL, evP, evO, lk, up, St.put, St.drop, constAV, cellAV, cellsAV, plain, binV, nilCmp, intBin, strBin, guardBit, boolOf, fnOf, intOfAV, bound, resOf, retV, moved, rowOf, valAt, Kd.agg, AV.cells, splice, places, fillAV, rowsFill, Hp.none, ↓reduceIte, reduceCtorEq, Nat.reduceLT, Nat.reduceEqDiff, Nat.reduceAdd, Nat.reduceLeDiff, Nat.reducePow, Nat.reduceMul, Yzz, Xzz, Yzy, tyW, dnSl, i64w]
          refine ⟨(), ?_⟩
          refine cp_drop' (by show 3 ≤ 3; decide) (by show 3 ≤ 5; decide) rfl (fun p hp => ⟨?_, (dn_rn ws top (i + 1) (by show 2 ≤ 3; decide) rfl rfl p hp).2⟩) (allc ⟨by show 0 < 3; decide, rfl, .cons (.own (by show 2 < 3; decide) rfl) .nil⟩ (allc ⟨by show 1 < 3; decide, rfl, .cons (rn_dnF (by show 0 < 3; decide) (by show 1 < 3; decide) rfl rfl) .nil⟩ alln)) (allc ⟨by show 2 < 3; decide, rfl, .pure (pure_rows pureR _)⟩ alln)
          exact (by simp [lk, dnSl] : ∀ p ∈ dnSl ws top (i + 1), lk _ p.1 = some p.2) p hp
      · have i1 : ¬ (ws.length : Int) < (ws.length : Int) := by omega
        simp -implicitDefEqProofs only [awl, ne_eq, srcRows, awo, aggEq, eqF, litEq, andO, qwl, qwo, Go.Ab.qOp, lop, oneK, stepOp, pairO, pureOp, heapOp, entry, slotsOf, ev, evL, evP, evO, lk, up, St.put, St.drop, constAV, cellAV, cellsAV, plain, binV, nilCmp, intBin, strBin, guardBit, boolOf, fnOf, intOfAV, bound, resOf, retV, moved, rowOf, valAt, Kd.agg, AV.cells, splice, places, fillAV, rowsFill, Hp.none, ↓reduceIte, reduceCtorEq, Nat.reduceLT, Nat.reduceEqDiff, Nat.reduceAdd, Nat.reduceLeDiff, Nat.reducePow, Nat.reduceMul, Yzz, Xzz, Yzy, tyW, dnS2, dnSl, i1, decide_false, List.take_length]
        refine Exists.imp (fun σ2 h => And.intro h.1 (h.2.trans (congrArg alH ?_))) (fin_cp (q := 2) (nx := 3) (A := (([] : List Sk) ++ [top.reverse]) ++ stkWs ws top) (by simp) (by simp) (by decide) (by decide) (.inl ⟨rfl, by decide⟩))
        simp [stkO, stkT]
    · have em : top.map encP = encP z :: y.map encP := by rw [hT]; rfl
      have alE0 : alH ([] : List Sk) = ⟨[(0, [.vec [] true]), (1, [dnF 0 1])], [], 2⟩ := rfl
      have hf1 : fits 1 24 := by decide
      refine SCall_introC Try.func31 rfl Try.ntmps31 (rs := []) rfl (by simp) (N := (alH ([] : List Sk)).nx) rfl ?_
      simp -implicitDefEqProofs only [awl, ne_eq, srcRows, awo, aggEq, eqF, litEq, andO, qwl, qwo, Go.Ab.qOp, lop, oneK, stepOp, pairO, pureOp, heapOp, entry, slotsOf, ev, evL, evP, evO, lk, up, St.put, St.drop, constAV, cellAV, cellsAV, plain, binV, nilCmp, intBin, strBin, guardBit, boolOf, fnOf, intOfAV, bound, resOf, retV, moved, rowOf, valAt, Kd.agg, AV.cells, splice, places, fillAV, rowsFill, Hp.none, ↓reduceIte, reduceCtorEq, Nat.reduceLT, Nat.reduceEqDiff, Nat.reduceAdd, Nat.reduceLeDiff, Nat.reducePow, Nat.reduceMul, Yzz, Xzz, Yzy, tyW, alE0, encO, encS, encT_eq, encWs_map, em]
      refine CallK_of call32 (SCall.own_sub (pure_rows pure_encP (z :: y)) (allc (.vec (pure_rows pure_encP (z :: y))) alln) (clone_cons z y false (by rw [hT] at ht; simp only [List.length_cons] at ht; omega)) _) ?_
      rintro r1 h1 ⟨rfl, rfl⟩
      simp -implicitDefEqProofs only [awl, ne_eq, srcRows, awo, aggEq, eqF, litEq, andO, qwl, qwo, Go.Ab.qOp, lop, oneK, stepOp, pairO, pureOp, heapOp, entry, slotsOf, ev, evL, evP, evO, lk, up, St.put, St.drop, constAV, cellAV, cellsAV, plain, binV, nilCmp, intBin, strBin, guardBit, boolOf, fnOf, intOfAV, bound, resOf, retV, moved, rowOf, valAt, Kd.agg, AV.cells, splice, places, fillAV, rowsFill, Hp.none, ↓reduceIte, reduceCtorEq, Nat.reduceLT, Nat.reduceEqDiff, Nat.reduceAdd, Nat.reduceLeDiff, Nat.reducePow, Nat.reduceMul, Yzz, Xzz, Yzy, tyW]
      refine CallK_of call33 (rev_at (l := z :: y) (hT ▸ hrev) (t := 2) rfl (by show 2 < 3; decide)) ?_
      rintro r1 h1 ⟨rfl, rfl⟩
      simp -implicitDefEqProofs only [awl, ne_eq, srcRows, awo, aggEq, eqF, litEq, andO, qwl, qwo, Go.Ab.qOp, lop, oneK, stepOp, pairO, pureOp, heapOp, entry, slotsOf, ev, evL, evP, evO, lk, up, St.put, St.drop, constAV, cellAV, cellsAV, plain, binV, nilCmp, intBin, strBin, guardBit, boolOf, fnOf, intOfAV, bound, resOf, retV, moved, rowOf, valAt, Kd.agg, AV.cells, splice, places, fillAV, rowsFill, Hp.none, ↓reduceIte, reduceCtorEq, Nat.reduceLT, Nat.reduceEqDiff, Nat.reduceAdd, Nat.reduceLeDiff, Nat.reducePow, Nat.reduceMul, Yzz, Xzz, Yzy, tyW, hf1, List.mem_singleton, forall_eq, List.not_mem_nil, false_imp_iff, implies_true, and_self, if_true, if_false, List.map_cons, List.map_nil, List.length_cons, List.length_nil, List.length_map, List.nil_append, List.cons_append, Nat.zero_add, Nat.reduceAdd]
      refine aw_forE ws.length 4 (dnS2 3 4 ws top (([] : List Sk) ++ [top.reverse])) (fun _ _ => True) (Nat.le_refl _) () ?_ trivial (fun i _ hlt _ => ?_) (fun _ _ => ?_)
      · exact (pre_own (q := 3) (T := 2) (m := y.length + 1) (ws := ws) (top := top) (rows := ([] : List Sk)) (by simp [lk, dnSl, encS, em]) rfl rfl rfl (by rw [hT]; rfl) (by rw [hT]; rfl) (by decide) rfl rfl).cp
      · have i1 : (i : Int) < (ws.length : Int) := by omega
        have ncast : ∀ n : Nat, (0 : Int) ≤ (n : Int) := Int.natCast_nonneg
        obtain ⟨w, hwi⟩ : ∃ w, ws[i]? = some w := ⟨_, List.getElem?_eq_getElem hlt⟩
        have hwm := List.mem_of_getElem? hwi
        have gw := map_getD encW hwi
        have ew := encW_eq w
        rw [ew] at gw
        have tk : ws.take (i + 1) = ws.take i ++ [w] := by rw [List.take_add_one, hwi]; rfl
        have hcount : (stkWs (ws.take (i + 1)) top).length ≤ (stkWs ws top).length := by
          have := congrArg List.length (stkWs_app (ws.take (i + 1)) (ws.drop (i + 1)) top)
          rw [List.take_append_drop, List.length_append] at this
          omega
        have r2 : ∀ q ∈ top.map encP, q.length = 2 := fun q hq => by obtain ⟨v, _, rfl⟩ := List.mem_map.1 hq; rfl
        have hft : fits (top.length + 1) 16 := fits_of' (by omega) (by omega)
        have tsl := top_slice top
        have hA : (([] : List Sk) ++ [top.reverse]) ++ stkWs (ws.take i) top ≠ [] := by simp
        have hNA : ((([] : List Sk) ++ [top.reverse]) ++ stkWs (ws.take i) top).length + (stkT w.t (top ++ [(w.s, w.l)])).length ≤ 1000000000 := by
          rw [tk, stkWs_app] at hcount
          simp only [stkWs, List.append_nil, stkW_t] at hcount
          simp only [stkT, List.length_append, List.length_cons, List.length_nil, if_true] at hN hcount ⊢
          omega
        unfold dnS2
        rw [tk, stkWs_app]
        simp only [stkWs, List.append_nil, stkW_t]
        rw [← List.append_assoc]
        generalize (([] : List Sk) ++ [top.reverse]) ++ stkWs (ws.take i) top = A at hNA hA ⊢
        have hsub : A ≠ [] → A ++ stkT w.t (top ++ [(w.s, w.l)]) ≠ [] := fun h e => h (List.append_eq_nil_iff.1 e).1
        have h2 := hsub hA
        have dG : ∀ nx, dnG 0 1 3 nx A (A ++ stkO (some w.t) (top ++ [(w.s, w.l)])) = alG 3 nx (A ++ stkT w.t (top ++ [(w.s, w.l)])) := fun nx => by show dnG 0 1 3 nx A (A ++ stkT w.t (top ++ [(w.s, w.l)])) = _; unfold dnG alG; rw [if_neg (by simp [hA]), grA_own h2, grT_own h2]
        simp -implicitDefEqProofs only [awl, ne_eq, srcRows, awo, aggEq, eqF, litEq, andO, qwl, qwo, Go.Ab.qOp, lop, oneK, stepOp, pairO, pureOp, heapOp, entry, slotsOf, ev, evL, evP, evO, lk, up, St.put, St.drop, constAV, cellAV, cellsAV, plain, binV, nilCmp, intBin, strBin, guardBit, boolOf, fnOf, intOfAV, bound, resOf, retV, moved, rowOf, valAt, Kd.agg, AV.cells, splice, places, fillAV, rowsFill, Hp.none, ↓reduceIte, reduceCtorEq, Nat.reduceLT, Nat.reduceEqDiff, Nat.reduceAdd, Nat.reduceLeDiff, Nat.reducePow, Nat.reduceMul, Yzz, Xzz, Yzy, tyW, alG, dnF, dnSl, encS, List.length_map, i1, decide_true, ncast, Int.toNat_natCast, gw, tyDown]
        refine aw_drawH (n := 47) (σ' := ⟨dnSl ws top i, alG 3 6 (A ++ stkT w.t (top ++ [(w.s, w.l)])), 47⟩) 6 12 (.alt 13 .leaf .nil) rfl rfl (by decide) (by decide) (by decide) mixed (by kernel_rfl) (by decide) ?_ ?_
        · simp -implicitDefEqProofs only [awl, ne_eq, srcRows, awo, aggEq, eqF, litEq, andO, qwl, qwo, Go.Ab.qOp, lop, oneK, stepOp, pairO, pureOp, heapOp, entry, slotsOf, ev, evL, evP, evO, lk, up, St.put, St.drop, constAV, cellAV, cellsAV, plain, binV, nilCmp, intBin, strBin, guardBit, boolOf, fnOf, intOfAV, bound, resOf, retV, moved, rowOf, valAt, Kd.agg, AV.cells, splice, places, fillAV, rowsFill, Hp.none, ↓reduceIte, reduceCtorEq, Nat.reduceLT, Nat.reduceEqDiff, Nat.reduceAdd, Nat.reduceLeDiff, Nat.reducePow, Nat.reduceMul, Yzz, Xzz, Yzy, tyW, dnF, ncast, Int.toNat_natCast, tyDown, List.length_map, tsl, List.mem_singleton, forall_eq, List.not_mem_nil, false_imp_iff, implies_true, eq_true r2, hft, and_self, if_true]
          refine And.intro (grows_rfl (by simp [lk])) ?_
          refine CallK.freeze (t := 5) (k := ⟨top.map encP ++ [encP (w.s, w.l)], 0, 2⟩) (args1 := [encT w.t, encS (top ++ [(w.s, w.l)]), .ptr 0 0, .ptr 1 0]) ?_ (fun g g' x c => cvL_cons (cv_refl x _) (cvL_cons (by simpa [encS] using c) (cvL_cons (cv_refl x _) (cvL_cons (cv_refl x _) cvL_nil)))) ?_
          · rfl
          refine CallK_of call31 (down_at (i := 0) (j := 1) (t := 3) (o := some w.t) (ih w hwm A hNA) hsub (by decide) (by show 0 < 6; decide) (by show 1 < 6; decide) (by rw [grA_own hA]; rfl) rfl (fun _ => ⟨rfl, by show 3 < 6; decide, by decide, by decide⟩)) ?_
          rintro rv h' ⟨rfl, rfl⟩
          simp -implicitDefEqProofs only [awl, ne_eq, srcRows, awo, aggEq, eqF, litEq, andO, qwl, qwo, Go.Ab.qOp, lop, oneK, stepOp, pairO, pureOp, heapOp, entry, slotsOf, ev, evL, evP, evO, lk, up, St.put, St.drop, constAV, cellAV, cellsAV, plain, binV, nilCmp, intBin, strBin, guardBit, boolOf, fnOf, intOfAV, bound, resOf, retV, moved, rowOf, valAt, Kd.agg, AV.cells, splice, places, fillAV, rowsFill, Hp.none, ↓reduceIte, reduceCtorEq, Nat.reduceLT, Nat.reduceEqDiff, Nat.reduceAdd, Nat.reduceLeDiff, Nat.reducePow, Nat.reduceMul, Yzz, Xzz, Yzy, tyW]
          rw [dG]
          exact St.wk.cp (St.wk_slots (by simp [lk, dnSl, encS]))
        · simp -implicitDefEqProofs (disch := omega) only [awl, ne_eq, srcRows, awo, aggEq, eqF, litEq, andO, qwl, qwo, Go.Ab.qOp, lop, oneK, stepOp, pairO, pureOp, heapOp, entry, slotsOf, ev, evL, evP, evO, lk, up, St.put, St.drop, constAV, cellAV, cellsAV, plain, binV, nilCmp, intBin, strBin, guardBit, boolOf, fnOf, intOfAV, bound, resOf, retV, moved, rowOf, valAt, Kd.agg, AV.cells, splice, places, fillAV, rowsFill, Hp.none, ↓reduceIte, reduceCtorEq, Nat.reduceLT, Nat.reduceEqDiff, Nat.reduceAdd, Nat.reduceLeDiff, Nat.reducePow, Nat.reduceMul, Yzz, Xzz, Yzy, tyW, dnSl, i64w]
          refine ⟨(), ?_⟩
          refine cp_drop' (by show 4 ≤ 4; decide) (by show 4 ≤ 6; decide) rfl (fun p hp => ⟨?_, (dn_rn ws top (i + 1) (by show 2 ≤ 4; decide) rfl rfl p hp).2⟩) (allc ⟨by show 0 < 4; decide, rfl, .cons (.own (by show 3 < 4; decide) rfl) .nil⟩ (allc ⟨by show 1 < 4; decide, rfl, .cons (rn_dnF (by show 0 < 4; decide) (by show 1 < 4; decide) rfl rfl) .nil⟩ alln)) (allc ⟨by show 3 < 4; decide, rfl, .pure (pure_rows pureR _)⟩ alln)
          exact (by simp [lk, dnSl] : ∀ p ∈ dnSl ws top (i + 1), lk _ p.1 = some p.2) p hp
      · have i1 : ¬ (ws.length : Int) < (ws.length : Int) := by omega
        simp -implicitDefEqProofs only [awl, ne_eq, srcRows, awo, aggEq, eqF, litEq, andO, qwl, qwo, Go.Ab.qOp, lop, oneK, stepOp, pairO, pureOp, heapOp, entry, slotsOf, ev, evL, evP, evO, lk, up, St.put, St.drop, constAV, cellAV, cellsAV, plain, binV, nilCmp, intBin, strBin, guardBit, boolOf, fnOf, intOfAV, bound, resOf, retV, moved, rowOf, valAt, Kd.agg, AV.cells, splice, places, fillAV, rowsFill, Hp.none, ↓reduceIte, reduceCtorEq, Nat.reduceLT, Nat.reduceEqDiff, Nat.reduceAdd, Nat.reduceLeDiff, Nat.reducePow, Nat.reduceMul, Yzz, Xzz, Yzy, tyW, dnS2, dnSl, i1, decide_false, List.take_length]
        refine Exists.imp (fun σ2 h => And.intro h.1 (h.2.trans (congrArg alH ?_))) (fin_cp (q := 3) (nx := 4) (A := (([] : List Sk) ++ [top.reverse]) ++ stkWs ws top) (by simp) (by simp) (by decide) (by decide) (.inl ⟨rfl, by decide⟩))
        simp [stkO, stkT]
  · rcases hcs with hT | ⟨z, y, hT⟩
    · have em : top.map encP = [] := by rw [hT]; rfl
      have alE0 : alH rows = ⟨[(0, [.own 2 rows.length]), (1, [dnF 0 1])], [(2, ⟨rows.map encR, 0, 1⟩)], 3⟩ := by unfold alH; rw [grA_own hr, grT_own hr, grN_own hr]
      have hf1 : fits 1 24 := by decide
      have hfr : fits (rows.length + 1) 24 := fits_of' (by omega) (by omega)
      have hr1 : ∀ q ∈ rows.map encR, q.length = 1 := row1 rows
      refine SCall_introC Try.func31 rfl Try.ntmps31 (rs := []) rfl (by simp) (N := (alH rows).nx) rfl ?_
      simp -implicitDefEqProofs only [awl, ne_eq, srcRows, awo, aggEq, eqF, litEq, andO, qwl, qwo, Go.Ab.qOp, lop, oneK, stepOp, pairO, pureOp, heapOp, entry, slotsOf, ev, evL, evP, evO, lk, up, St.put, St.drop, constAV, cellAV, cellsAV, plain, binV, nilCmp, intBin, strBin, guardBit, boolOf, fnOf, intOfAV, bound, resOf, retV, moved, rowOf, valAt, Kd.agg, AV.cells, splice, places, fillAV, rowsFill, Hp.none, ↓reduceIte, reduceCtorEq, Nat.reduceLT, Nat.reduceEqDiff, Nat.reduceAdd, Nat.reduceLeDiff, Nat.reducePow, Nat.reduceMul, Yzz, Xzz, Yzy, tyW, alE0, encO, encS, encT_eq, encWs_map, em]
      refine CallK_pure call32 (clone_nil false) (allc (.vec (by simp)) alln) (.vec (by simp)) ?_
      simp -implicitDefEqProofs only [awl, ne_eq, srcRows, awo, aggEq, eqF, litEq, andO, qwl, qwo, Go.Ab.qOp, lop, oneK, stepOp, pairO, pureOp, heapOp, entry, slotsOf, ev, evL, evP, evO, lk, up, St.put, St.drop, constAV, cellAV, cellsAV, plain, binV, nilCmp, intBin, strBin, guardBit, boolOf, fnOf, intOfAV, bound, resOf, retV, moved, rowOf, valAt, Kd.agg, AV.cells, splice, places, fillAV, rowsFill, Hp.none, ↓reduceIte, reduceCtorEq, Nat.reduceLT, Nat.reduceEqDiff, Nat.reduceAdd, Nat.reduceLeDiff, Nat.reducePow, Nat.reduceMul, Yzz, Xzz, Yzy, tyW]
      refine CallK_pure call33 (reverse_nil true) (allc (.vec (by simp)) alln) (.tup (by simp)) ?_
      simp -implicitDefEqProofs only [awl, ne_eq, srcRows, awo, aggEq, eqF, litEq, andO, qwl, qwo, Go.Ab.qOp, lop, oneK, stepOp, pairO, pureOp, heapOp, entry, slotsOf, ev, evL, evP, evO, lk, up, St.put, St.drop, constAV, cellAV, cellsAV, plain, binV, nilCmp, intBin, strBin, guardBit, boolOf, fnOf, intOfAV, bound, resOf, retV, moved, rowOf, valAt, Kd.agg, AV.cells, splice, places, fillAV, rowsFill, Hp.none, ↓reduceIte, reduceCtorEq, Nat.reduceLT, Nat.reduceEqDiff, Nat.reduceAdd, Nat.reduceLeDiff, Nat.reducePow, Nat.reduceMul, Yzz, Xzz, Yzy, tyW, hfr, eq_true hr1, List.mem_singleton, forall_eq, List.not_mem_nil, false_imp_iff, implies_true, and_self, if_true, if_false, List.map_cons, List.map_nil, List.length_cons, List.length_nil, List.length_map, List.nil_append, List.cons_append, Nat.zero_add, Nat.reduceAdd]
      refine aw_forE ws.length 3 (dnS2 2 3 ws top (rows ++ [top.reverse])) (fun _ _ => True) (Nat.le_refl _) () ?_ trivial (fun i _ hlt _ => ?_) (fun _ _ => ?_)
      · exact (pre_vec (ws := ws) (top := top) (rows := rows) (fl := true) hT (by simp [lk, dnSl, encS, em]) rfl rfl rfl rfl rfl).cp
      · have i1 : (i : Int) < (ws.length : Int) := by omega
        have ncast : ∀ n : Nat, (0 : Int) ≤ (n : Int) := Int.natCast_nonneg
        obtain ⟨w, hwi⟩ : ∃ w, ws[i]? = some w := ⟨_, List.getElem?_eq_getElem hlt⟩
        have hwm := List.mem_of_getElem? hwi
        have gw := map_getD encW hwi
        have ew := encW_eq w
        rw [ew] at gw
        have tk : ws.take (i + 1) = ws.take i ++ [w] := by rw [List.take_add_one, hwi]; rfl
        have hcount : (stkWs (ws.take (i + 1)) top).length ≤ (stkWs ws top).length := by
          have := congrArg List.length (stkWs_app (ws.take (i + 1)) (ws.drop (i + 1)) top)
          rw [List.take_append_drop, List.length_append] at this
          omega
        have r2 : ∀ q ∈ top.map encP, q.length = 2 := fun q hq => by obtain ⟨v, _, rfl⟩ := List.mem_map.1 hq; rfl
        have hft : fits (top.length + 1) 16 := fits_of' (by omega) (by omega)
        have tsl := top_slice top
        have hA : (rows ++ [top.reverse]) ++ stkWs (ws.take i) top ≠ [] := by simp
        have hNA : ((rows ++ [top.reverse]) ++ stkWs (ws.take i) top).length + (stkT w.t (top ++ [(w.s, w.l)])).length ≤ 1000000000 := by
          rw [tk, stkWs_app] at hcount
          simp only [stkWs, List.append_nil, stkW_t] at hcount
          simp only [stkT, List.length_append, List.length_cons, List.length_nil, if_true] at hN hcount ⊢
          omega
        unfold dnS2
        rw [tk, stkWs_app]
        simp only [stkWs, List.append_nil, stkW_t]
        rw [← List.append_assoc]
        generalize (rows ++ [top.reverse]) ++ stkWs (ws.take i) top = A at hNA hA ⊢
        have hsub : A ≠ [] → A ++ stkT w.t (top ++ [(w.s, w.l)]) ≠ [] := fun h e => h (List.append_eq_nil_iff.1 e).1
        have h2 := hsub hA
        have dG : ∀ nx, dnG 0 1 2 nx A (A ++ stkO (some w.t) (top ++ [(w.s, w.l)])) = alG 2 nx (A ++ stkT w.t (top ++ [(w.s, w.l)])) := fun nx => by show dnG 0 1 2 nx A (A ++ stkT w.t (top ++ [(w.s, w.l)])) = _; unfold dnG alG; rw [if_neg (by simp [hA]), grA_own h2, grT_own h2]
        simp -implicitDefEqProofs only [awl, ne_eq, srcRows, awo, aggEq, eqF, litEq, andO, qwl, qwo, Go.Ab.qOp, lop, oneK, stepOp, pairO, pureOp, heapOp, entry, slotsOf, ev, evL, evP, evO, lk, up, St.put, St.drop, constAV, cellAV, cellsAV, plain, binV, nilCmp, intBin, strBin, guardBit, boolOf, fnOf, intOfAV, bound, resOf, retV, moved, rowOf, valAt, Kd.agg, AV.cells, splice, places, fillAV, rowsFill, Hp.none, ↓reduceIte, reduceCtorEq, Nat.reduceLT, Nat.reduceEqDiff, Nat.reduceAdd, Nat.reduceLeDiff, Nat.reducePow, Nat.reduceMul, Yzz, Xzz, Yzy, tyW, alG, dnF, dnSl, encS, List.length_map, i1, decide_true, ncast, Int.toNat_natCast, gw, tyDown]
        refine aw_drawH (n := 47) (σ' := ⟨dnSl ws top i, alG 2 5 (A ++ stkT w.t (top ++ [(w.s, w.l)])), 47⟩) 5 12 (.alt 13 .leaf .nil) rfl rfl (by decide) (by decide) (by decide) mixed (by kernel_rfl) (by decide) ?_ ?_
        · simp -implicitDefEqProofs only [awl, ne_eq, srcRows, awo, aggEq, eqF, litEq, andO, qwl, qwo, Go.Ab.qOp, lop, oneK, stepOp, pairO, pureOp, heapOp, entry, slotsOf, ev, evL, evP, evO, lk, up, St.put, St.drop, constAV, cellAV, cellsAV, plain, binV, nilCmp, intBin, strBin, guardBit, boolOf, fnOf, intOfAV, bound, resOf, retV, moved, rowOf, valAt, Kd.agg, AV.cells, splice, places, fillAV, rowsFill, Hp.none, ↓reduceIte, reduceCtorEq, Nat.reduceLT, Nat.reduceEqDiff, Nat.reduceAdd, Nat.reduceLeDiff, Nat.reducePow, Nat.reduceMul, Yzz, Xzz, Yzy, tyW, dnF, ncast, Int.toNat_natCast, tyDown, List.length_map, tsl, List.mem_singleton, forall_eq, List.not_mem_nil, false_imp_iff, implies_true, eq_true r2, hft, and_self, if_true]
          refine And.intro (grows_rfl (by simp [lk])) ?_
          refine CallK.freeze (t := 4) (k := ⟨top.map encP ++ [encP (w.s, w.l)], 0, 2⟩) (args1 := [encT w.t, encS (top ++ [(w.s, w.l)]), .ptr 0 0, .ptr 1 0]) ?_ (fun g g' x c => cvL_cons (cv_refl x _) (cvL_cons (by simpa [encS] using c) (cvL_cons (cv_refl x _) (cvL_cons (cv_refl x _) cvL_nil)))) ?_
          · rfl
          refine CallK_of call31 (down_at (i := 0) (j := 1) (t := 2) (o := some w.t) (ih w hwm A hNA) hsub (by decide) (by show 0 < 5; decide) (by show 1 < 5; decide) (by rw [grA_own hA]; rfl) rfl (fun _ => ⟨rfl, by show 2 < 5; decide, by decide, by decide⟩)) ?_
          rintro rv h' ⟨rfl, rfl⟩
          simp -implicitDefEqProofs only [awl, ne_eq, srcRows, awo, aggEq, eqF, litEq, andO, qwl, qwo, Go.Ab.qOp, lop, oneK, stepOp, pairO, pureOp, heapOp, entry, slotsOf, ev, evL, evP, evO, lk, up, St.put, St.drop, constAV, cellAV, cellsAV, plain, binV, nilCmp, intBin, strBin, guardBit, boolOf, fnOf, intOfAV, bound, resOf, retV, moved, rowOf, valAt, Kd.agg, AV.cells, splice, places, fillAV, rowsFill, Hp.none, ↓reduceIte, reduceCtorEq, Nat.reduceLT, Nat.reduceEqDiff, Nat.reduceAdd, Nat.reduceLeDiff, Nat.reducePow, Nat.reduceMul, Yzz, Xzz, Yzy, tyW]
          rw [dG]
          exact St.wk.cp (St.wk_slots (by simp [lk, dnSl, encS]))
        · simp -implicitDefEqProofs (disch := omega) only [awl, ne_eq, srcRows, awo, aggEq, eqF, litEq, andO, qwl, qwo, Go.Ab.qOp, lop, oneK, stepOp, pairO, pureOp, heapOp, entry, slotsOf, ev, evL, evP, evO, lk, up, St.put, St.drop, constAV, cellAV, cellsAV, plain, binV, nilCmp, intBin, strBin, guardBit, boolOf, fnOf, intOfAV, bound, resOf, retV, moved, rowOf, valAt, Kd.agg, AV.cells, splice, places, fillAV, rowsFill, Hp.none, ↓reduceIte, reduceCtorEq, Nat.reduceLT, Nat.reduceEqDiff, Nat.reduceAdd, Nat.reduceLeDiff, Nat.reducePow, Nat.reduceMul, Yzz, Xzz, Yzy, tyW, dnSl, i64w]
          refine ⟨(), ?_⟩
          refine cp_drop' (by show 3 ≤ 3; decide) (by show 3 ≤ 5; decide) rfl (fun p hp => ⟨?_, (dn_rn ws top (i + 1) (by show 2 ≤ 3; decide) rfl rfl p hp).2⟩) (allc ⟨by show 0 < 3; decide, rfl, .cons (.own (by show 2 < 3; decide) rfl) .nil⟩ (allc ⟨by show 1 < 3; decide, rfl, .cons (rn_dnF (by show 0 < 3; decide) (by show 1 < 3; decide) rfl rfl) .nil⟩ alln)) (allc ⟨by show 2 < 3; decide, rfl, .pure (pure_rows pureR _)⟩ alln)
          exact (by simp [lk, dnSl] : ∀ p ∈ dnSl ws top (i + 1), lk _ p.1 = some p.2) p hp
      · have i1 : ¬ (ws.length : Int) < (ws.length : Int) := by omega
        simp -implicitDefEqProofs only [awl, ne_eq, srcRows, awo, aggEq, eqF, litEq, andO, qwl, qwo, Go.Ab.qOp, lop, oneK, stepOp, pairO, pureOp, heapOp, entry, slotsOf, ev, evL, evP, evO, lk, up, St.put, St.drop, constAV, cellAV, cellsAV, plain, binV, nilCmp, intBin, strBin, guardBit, boolOf, fnOf, intOfAV, bound, resOf, retV, moved, rowOf, valAt, Kd.agg, AV.cells, splice, places, fillAV, rowsFill, Hp.none, ↓reduceIte, reduceCtorEq, Nat.reduceLT, Nat.reduceEqDiff, Nat.reduceAdd, Nat.reduceLeDiff, Nat.reducePow, Nat.reduceMul, Yzz, Xzz, Yzy, tyW, dnS2, dnSl, i1, decide_false, List.take_length]
        refine Exists.imp (fun σ2 h => And.intro h.1 (h.2.trans (congrArg alH ?_))) (fin_cp (q := 2) (nx := 3) (A := (rows ++ [top.reverse]) ++ stkWs ws top) (by simp) (by simp) (by decide) (by decide) (.inr ⟨rfl, rfl⟩))
        simp [stkO, stkT]
    · have em : top.map encP = encP z :: y.map encP := by rw [hT]; rfl
      have alE0 : alH rows = ⟨[(0, [.own 2 rows.length]), (1, [dnF 0 1])], [(2, ⟨rows.map encR, 0, 1⟩)], 3⟩ := by unfold alH; rw [grA_own hr, grT_own hr, grN_own hr]
      have hf1 : fits 1 24 := by decide
      have hfr : fits (rows.length + 1) 24 := fits_of' (by omega) (by omega)
      have hr1 : ∀ q ∈ rows.map encR, q.length = 1 := row1 rows
      refine SCall_introC Try.func31 rfl Try.ntmps31 (rs := []) rfl (by simp) (N := (alH rows).nx) rfl ?_
      simp -implicitDefEqProofs only [awl, ne_eq, srcRows, awo, aggEq, eqF, litEq, andO, qwl, qwo, Go.Ab.qOp, lop, oneK, stepOp, pairO, pureOp, heapOp, entry, slotsOf, ev, evL, evP, evO, lk, up, St.put, St.drop, constAV, cellAV, cellsAV, plain, binV, nilCmp, intBin, strBin, guardBit, boolOf, fnOf, intOfAV, bound, resOf, retV, moved, rowOf, valAt, Kd.agg, AV.cells, splice, places, fillAV, rowsFill, Hp.none, ↓reduceIte, reduceCtorEq, Nat.reduceLT, Nat.reduceEqDiff, Nat.reduceAdd, Nat.reduceLeDiff, Nat.reducePow, Nat.reduceMul, Yzz, Xzz, Yzy, tyW, alE0, encO, encS, encT_eq, encWs_map, em]
      refine CallK_of call32 (SCall.own_sub (pure_rows pure_encP (z :: y)) (allc (.vec (pure_rows pure_encP (z :: y))) alln) (clone_cons z y false (by rw [hT] at ht; simp only [List.length_cons] at ht; omega)) _) ?_
      rintro r1 h1 ⟨rfl, rfl⟩
      simp -implicitDefEqProofs only [awl, ne_eq, srcRows, awo, aggEq, eqF, litEq, andO, qwl, qwo, Go.Ab.qOp, lop, oneK, stepOp, pairO, pureOp, heapOp, entry, slotsOf, ev, evL, evP, evO, lk, up, St.put, St.drop, constAV, cellAV, cellsAV, plain, binV, nilCmp, intBin, strBin, guardBit, boolOf, fnOf, intOfAV, bound, resOf, retV, moved, rowOf, valAt, Kd.agg, AV.cells, splice, places, fillAV, rowsFill, Hp.none, ↓reduceIte, reduceCtorEq, Nat.reduceLT, Nat.reduceEqDiff, Nat.reduceAdd, Nat.reduceLeDiff, Nat.reducePow, Nat.reduceMul, Yzz, Xzz, Yzy, tyW]
      refine CallK_of call33 (rev_at (l := z :: y) (hT ▸ hrev) (t := 3) rfl (by show 3 < 4; decide)) ?_
      rintro r1 h1 ⟨rfl, rfl⟩
      simp -implicitDefEqProofs only [awl, ne_eq, srcRows, awo, aggEq, eqF, litEq, andO, qwl, qwo, Go.Ab.qOp, lop, oneK, stepOp, pairO, pureOp, heapOp, entry, slotsOf, ev, evL, evP, evO, lk, up, St.put, St.drop, constAV, cellAV, cellsAV, plain, binV, nilCmp, intBin, strBin, guardBit, boolOf, fnOf, intOfAV, bound, resOf, retV, moved, rowOf, valAt, Kd.agg, AV.cells, splice, places, fillAV, rowsFill, Hp.none, ↓reduceIte, reduceCtorEq, Nat.reduceLT, Nat.reduceEqDiff, Nat.reduceAdd, Nat.reduceLeDiff, Nat.reducePow, Nat.reduceMul, Yzz, Xzz, Yzy, tyW, hfr, eq_true hr1, List.mem_singleton, forall_eq, List.not_mem_nil, false_imp_iff, implies_true, and_self, if_true, if_false, List.map_cons, List.map_nil, List.length_cons, List.length_nil, List.length_map, List.nil_append, List.cons_append, Nat.zero_add, Nat.reduceAdd]
      refine aw_forE ws.length 4 (dnS2 2 4 ws top (rows ++ [top.reverse])) (fun _ _ => True) (Nat.le_refl _) () ?_ trivial (fun i _ hlt _ => ?_) (fun _ _ => ?_)
      · exact (pre_own (q := 2) (T := 3) (m := y.length + 1) (ws := ws) (top := top) (rows := rows) (by simp [lk, dnSl, encS, em]) rfl rfl rfl (by rw [hT]; rfl) (by rw [hT]; rfl) (by decide) rfl rfl).cp
      · have i1 : (i : Int) < (ws.length : Int) := by omega
        have ncast : ∀ n : Nat, (0 : Int) ≤ (n : Int) := Int.natCast_nonneg
        obtain ⟨w, hwi⟩ : ∃ w, ws[i]? = some w := ⟨_, List.getElem?_eq_getElem hlt⟩
        have hwm := List.mem_of_getElem? hwi
        have gw := map_getD encW hwi
        have ew := encW_eq w
        rw [ew] at gw
        have tk : ws.take (i + 1) = ws.take i ++ [w] := by rw [List.take_add_one, hwi]; rfl
        have hcount : (stkWs (ws.take (i + 1)) top).length ≤ (stkWs ws top).length := by
          have := congrArg List.length (stkWs_app (ws.take (i + 1)) (ws.drop (i + 1)) top)
          rw [List.take_append_drop, List.length_append] at this
          omega
        have r2 : ∀ q ∈ top.map encP, q.length = 2 := fun q hq => by obtain ⟨v, _, rfl⟩ := List.mem_map.1 hq; rfl
        have hft : fits (top.length + 1) 16 := fits_of' (by omega) (by omega)
        have tsl := top_slice top
        have hA : (rows ++ [top.reverse]) ++ stkWs (ws.take i) top ≠ [] := by simp
        have hNA : ((rows ++ [top.reverse]) ++ stkWs (ws.take i) top).length + (stkT w.t (top ++ [(w.s, w.l)])).length ≤ 1000000000 := by
          rw [tk, stkWs_app] at hcount
          simp only [stkWs, List.append_nil, stkW_t] at hcount
          simp only [stkT, List.length_append, List.length_cons, List.length_nil, if_true] at hN hcount ⊢
          omega
        unfold dnS2
        rw [tk, stkWs_app]
        simp only [stkWs, List.append_nil, stkW_t]
        rw [← List.append_assoc]
        generalize (rows ++ [top.reverse]) ++ stkWs (ws.take i) top = A at hNA hA ⊢
        have hsub : A ≠ [] → A ++ stkT w.t (top ++ [(w.s, w.l)]) ≠ [] := fun h e => h (List.append_eq_nil_iff.1 e).1
        have h2 := hsub hA
        have dG : ∀ nx, dnG 0 1 2 nx A (A ++ stkO (some w.t) (top ++ [(w.s, w.l)])) = alG 2 nx (A ++ stkT w.t (top ++ [(w.s, w.l)])) := fun nx => by show dnG 0 1 2 nx A (A ++ stkT w.t (top ++ [(w.s, w.l)])) = _; unfold dnG alG; rw [if_neg (by simp [hA]), grA_own h2, grT_own h2]
        simp -implicitDefEqProofs only [awl, ne_eq, srcRows, awo, aggEq, eqF, litEq, andO, qwl, qwo, Go.Ab.qOp, lop, oneK, stepOp, pairO, pureOp, heapOp, entry, slotsOf, ev, evL, evP, evO, lk, up, St.put, St.drop, constAV, cellAV, cellsAV, plain, binV, nilCmp, intBin, strBin, guardBit, boolOf, fnOf, intOfAV, bound, resOf, retV, moved, rowOf, valAt, Kd.agg, AV.cells, splice, places, fillAV, rowsFill, Hp.none, ↓reduceIte, reduceCtorEq, Nat.reduceLT, Nat.reduceEqDiff, Nat.reduceAdd, Nat.reduceLeDiff, Nat.reducePow, Nat.reduceMul, Yzz, Xzz, Yzy, tyW, alG, dnF, dnSl, encS, List.length_map, i1, decide_true, ncast, Int.toNat_natCast, gw, tyDown]
        refine aw_drawH (n := 47) (σ' := ⟨dnSl ws top i, alG 2 6 (A ++ stkT w.t (top ++ [(w.s, w.l)])), 47⟩) 6 12 (.alt 13 .leaf .nil) rfl rfl (by decide) (by decide) (by decide) mixed (by kernel_rfl) (by decide) ?_ ?_
        · simp -implicitDefEqProofs only [awl, ne_eq, srcRows, awo, aggEq, eqF, litEq, andO, qwl, qwo, Go.Ab.qOp, lop, oneK, stepOp, pairO, pureOp, heapOp, entry, slotsOf, ev, evL, evP, evO, lk, up, St.put, St.drop, constAV, cellAV, cellsAV, plain, binV, nilCmp, intBin, strBin, guardBit, boolOf, fnOf, intOfAV, bound, resOf, retV, moved, rowOf, valAt, Kd.agg, AV.cells, splice, places, fillAV, rowsFill, Hp.none, ↓reduceIte, reduceCtorEq, Nat.reduceLT, Nat.reduceEqDiff, Nat.reduceAdd, Nat.reduceLeDiff, Nat.reducePow, Nat.reduceMul, Yzz, Xzz, Yzy, tyW, dnF, ncast, Int.toNat_natCast, tyDown, List.length_map, tsl, List.mem_singleton, forall_eq, List.not_mem_nil, false_imp_iff, implies_true, eq_true r2, hft, and_self, if_true]
          refine And.intro (grows_rfl (by simp [lk])) ?_
          refine CallK.freeze (t := 5) (k := ⟨top.map encP ++ [encP (w.s, w.l)], 0, 2⟩) (args1 := [encT w.t, encS (top ++ [(w.s, w.l)]), .ptr 0 0, .ptr 1 0]) ?_ (fun g g' x c => cvL_cons (cv_refl x _) (cvL_cons (by simpa [encS] using c) (cvL_cons (cv_refl x _) (cvL_cons (cv_refl x _) cvL_nil)))) ?_
          · rfl
          refine CallK_of call31 (down_at (i := 0) (j := 1) (t := 2) (o := some w.t) (ih w hwm A hNA) hsub (by decide) (by show 0 < 6; decide) (by show 1 < 6; decide) (by rw [grA_own hA]; rfl) rfl (fun _ => ⟨rfl, by show 2 < 6; decide, by decide, by decide⟩)) ?_
          rintro rv h' ⟨rfl, rfl⟩
          simp -implicitDefEqProofs only [awl, ne_eq, srcRows, awo, aggEq, eqF, litEq, andO, qwl, qwo, Go.Ab.qOp, lop, oneK, stepOp, pairO, pureOp, heapOp, entry, slotsOf, ev, evL, evP, evO, lk, up, St.put, St.drop, constAV, cellAV, cellsAV, plain, binV, nilCmp, intBin, strBin, guardBit, boolOf, fnOf, intOfAV, bound, resOf, retV, moved, rowOf, valAt, Kd.agg, AV.cells, splice, places, fillAV, rowsFill, Hp.none, ↓reduceIte, reduceCtorEq, Nat.reduceLT, Nat.reduceEqDiff, Nat.reduceAdd, Nat.reduceLeDiff, Nat.reducePow, Nat.reduceMul, Yzz, Xzz, Yzy, tyW]
          rw [dG]
          exact St.wk.cp (St.wk_slots (by simp [lk, dnSl, encS]))
        · simp -implicitDefEqProofs (disch := omega) only [awl, ne_eq, srcRows, awo, aggEq, eqF, litEq, andO, qwl, qwo, Go.Ab.qOp, lop, oneK, stepOp, pairO, pureOp, heapOp, entry, slotsOf, ev, evL, evP, evO, lk, up, St.put, St.drop, constAV, cellAV, cellsAV, plain, binV, nilCmp, intBin, strBin, guardBit, boolOf, fnOf, intOfAV, bound, resOf, retV, moved, rowOf, valAt, Kd.agg, AV.cells, splice, places, fillAV, rowsFill, Hp.none, ↓reduceIte, reduceCtorEq, Nat.reduceLT, Nat.reduceEqDiff, Nat.reduceAdd, Nat.reduceLeDiff, Nat.reducePow, Nat.reduceMul, Yzz, Xzz, Yzy, tyW, dnSl, i64w]
          refine ⟨(), ?_⟩
          refine cp_drop' (by show 4 ≤ 4; decide) (by show 4 ≤ 6; decide) rfl (fun p hp => ⟨?_, (dn_rn ws top (i + 1) (by show 2 ≤ 4; decide) rfl rfl p hp).2⟩) (allc ⟨by show 0 < 4; decide, rfl, .cons (.own (by show 2 < 4; decide) rfl) .nil⟩ (allc ⟨by show 1 < 4; decide, rfl, .cons (rn_dnF (by show 0 < 4; decide) (by show 1 < 4; decide) rfl rfl) .nil⟩ alln)) (allc ⟨by show 2 < 4; decide, rfl, .pure (pure_rows pureR _)⟩ alln)
          exact (by simp [lk, dnSl] : ∀ p ∈ dnSl ws top (i + 1), lk _ p.1 = some p.2) p hp
      · have i1 : ¬ (ws.length : Int) < (ws.length : Int) := by omega
        simp -implicitDefEqProofs only [awl, ne_eq, srcRows, awo, aggEq, eqF, litEq, andO, qwl, qwo, Go.Ab.qOp, lop, oneK, stepOp, pairO, pureOp, heapOp, entry, slotsOf, ev, evL, evP, evO, lk, up, St.put, St.drop, constAV, cellAV, cellsAV, plain, binV, nilCmp, intBin, strBin, guardBit, boolOf, fnOf, intOfAV, bound, resOf, retV, moved, rowOf, valAt, Kd.agg, AV.cells, splice, places, fillAV, rowsFill, Hp.none, ↓reduceIte, reduceCtorEq, Nat.reduceLT, Nat.reduceEqDiff, Nat.reduceAdd, Nat.reduceLeDiff, Nat.reducePow, Nat.reduceMul, Yzz, Xzz, Yzy, tyW, dnS2, dnSl, i1, decide_false, List.take_length]
        refine Exists.imp (fun σ2 h => And.intro h.1 (h.2.trans (congrArg alH ?_))) (fin_cp (q := 2) (nx := 4) (A := (rows ++ [top.reverse]) ++ stkWs ws top) (by simp) (by simp) (by decide) (by decide) (.inr ⟨rfl, rfl⟩))
        simp [stkO, stkT]
end Go.Proofs.Ytfnmdmadaljjkaa
end
