/- Contracts: bundles joined, pushed, none, the empty one, whether they are bare. Conditions: those that each theorem names. Contract: whether two sets of stacks are the same. Conditions: those that each theorem names. Contracts: what stands below a top. Conditions: those that each theorem names. Contracts: what stands below a top; the tops; bundles of frames. Conditions: those that each theorem names. Contracts: the tops of a bundle; bundles of frames. Conditions: those that each theorem names. -/
import Derived.Test.YtfnmdmadaljjkaaXzz
import Derived.Test.YtfnmdmadaljjkaaSb
section
namespace Go.Proofs.Ytfnmdmadaljjkaa
open Go.Ab
set_option linter.unusedSimpArgs false
set_option linter.unusedVariables false
set_option maxRecDepth 20000

theorem kexpo_node {h : Hp} {id : Nat} {b : Bool} {rows : List (List AV)} {f : Bool} (hk : lk h.boxes id = some [.lit (.bool b), .vec rows f]) (hg : ∀ x ∈ rows, ∀ c ∈ x, GP c) : KExpo h (.agg [.ptr id 0]) (.agg [.np [.lit (.bool b), .vec rows false]]) := by
  refine KExpo.wk (h' := ⟨[(id, [.lit (.bool b), .vec rows false])], [], h.nx⟩) (r' := .agg [.ptr id 0]) (St.wk_conv rfl rfl (fun g g' x p hp => ?_) (fun g g' x p hp => ?_) (fun g p hp => by cases hp)) (kexpo_box1 (by simp [lk]) (allc (.lit _) (allc (.vec hg) alln)))
  · rcases List.mem_singleton.1 hp with rfl
    exact ⟨_, rfl, cv_refl x _⟩
  · rcases List.mem_singleton.1 hp with rfl
    exact ⟨_, hk, cvL_cons (cv_refl x _) (cvL_cons (cv_full x _ _) cvL_nil)⟩
def BndO (n : Nat) (o : Option Tr) : Prop := ∀ t, o = some t → Bnd n t
theorem joinO (n m : Nat) (hnm : n + m ≤ 2000000000) (a b : Option Tr) (ha : WfO a) (hb : WfO b) (na : BndO n a) (nb : BndO m b) : KCall Try.prog 46 [encO a, encO b, .mp 0] (encO (comb a b)) := by
  cases a with
  | none =>
    refine KCall_of (SCall_intro Try.func46 rfl Try.ntmps46 (rs := [.tmp 6]) rfl (by simp) ?_)
    show awp _ _ _ (entry [.lit (.pointer none), encO b, .mp 0] .none _)
    simp -implicitDefEqProofs only [awl, ne_eq, srcRows, awo, aggEq, eqF, litEq, andO, qwl, qwo, Go.Ab.qOp, lop, oneK, stepOp, pairO, pureOp, heapOp, entry, slotsOf, ev, evL, evP, evO, lk, up, St.put, St.drop, constAV, cellAV, cellsAV, plain, binV, nilCmp, intBin, strBin, guardBit, boolOf, fnOf, intOfAV, bound, resOf, retV, moved, rowOf, valAt, Kd.agg, AV.cells, splice, places, fillAV, rowsFill, Hp.none, ↓reduceIte, reduceCtorEq, Nat.reduceLT, Nat.reduceEqDiff, Nat.reduceAdd, Nat.reduceLeDiff, Nat.reducePow, Nat.reduceMul, Yzz, Xzz, Yzy, tyW]
    exact kexpo (gp_encO b)
  | some x =>
    cases b with
    | none =>
      obtain ⟨b1, ws⟩ := x
      have gp := gp_encT (.mk b1 ws)
      refine KCall_of (SCall_intro Try.func46 rfl Try.ntmps46 (rs := [.tmp 6]) rfl (by simp) ?_)
      simp -implicitDefEqProofs only [awl, ne_eq, srcRows, awo, aggEq, eqF, litEq, andO, qwl, qwo, Go.Ab.qOp, lop, oneK, stepOp, pairO, pureOp, heapOp, entry, slotsOf, ev, evL, evP, evO, lk, up, St.put, St.drop, constAV, cellAV, cellsAV, plain, binV, nilCmp, intBin, strBin, guardBit, boolOf, fnOf, intOfAV, bound, resOf, retV, moved, rowOf, valAt, Kd.agg, AV.cells, splice, places, fillAV, rowsFill, Hp.none, ↓reduceIte, reduceCtorEq, Nat.reduceLT, Nat.reduceEqDiff, Nat.reduceAdd, Nat.reduceLeDiff, Nat.reducePow, Nat.reduceMul, Yzz, Xzz, Yzy, tyW, encO, comb, encT_eq] at gp ⊢
      exact kexpo gp
    | some y => exact joinC n m hnm x y (ha x rfl) (hb y rfl) (na x rfl) (nb y rfl)
def encB (o : Option Tr) : AV := .agg [encO o]
theorem gp_encB (o : Option Tr) : GP (encB o) := .agg (allc (gp_encO o) alln)
theorem Join_spec (n m : Nat) (hnm : n + m ≤ 2000000000) (a b : Option Tr) (ha : WfO a) (hb : WfO b) (na : BndO n a) (nb : BndO m b) : KCall Try.prog 20 [encB a, encB b] (encB (comb a b)) := by
  refine KCall_of (SCall_intro Try.func20 rfl Try.ntmps20 (rs := [.cell 4 28]) rfl (by simp) ?_)
  simp -implicitDefEqProofs only [awl, ne_eq, srcRows, awo, aggEq, eqF, litEq, andO, qwl, qwo, Go.Ab.qOp, lop, oneK, stepOp, pairO, pureOp, heapOp, entry, slotsOf, ev, evL, evP, evO, lk, up, St.put, St.drop, constAV, cellAV, cellsAV, plain, binV, nilCmp, intBin, strBin, guardBit, boolOf, fnOf, intOfAV, bound, resOf, retV, moved, rowOf, valAt, Kd.agg, AV.cells, splice, places, fillAV, rowsFill, Hp.none, ↓reduceIte, reduceCtorEq, Nat.reduceLT, Nat.reduceEqDiff, Nat.reduceAdd, Nat.reduceLeDiff, Nat.reducePow, Nat.reduceMul, Yzz, Xzz, Yzy, tyW, encB]
  refine stepK_makeMap 0 ?_
  simp -implicitDefEqProofs only [awl, ne_eq, srcRows, awo, aggEq, eqF, litEq, andO, qwl, qwo, Go.Ab.qOp, lop, oneK, stepOp, pairO, pureOp, heapOp, entry, slotsOf, ev, evL, evP, evO, lk, up, St.put, St.drop, constAV, cellAV, cellsAV, plain, binV, nilCmp, intBin, strBin, guardBit, boolOf, fnOf, intOfAV, bound, resOf, retV, moved, rowOf, valAt, Kd.agg, AV.cells, splice, places, fillAV, rowsFill, Hp.none, ↓reduceIte, reduceCtorEq, Nat.reduceLT, Nat.reduceEqDiff, Nat.reduceAdd, Nat.reduceLeDiff, Nat.reducePow, Nat.reduceMul, Yzz, Xzz, Yzy, tyW]
  refine CallK_k call46 (joinO n m hnm a b ha hb na nb) (allc (gp_encO _) (allc (gp_encO _) (allc (.mp 0) alln))) (gp_encO _) ?_
  have gp := gp_encO (comb a b)
  rcases isP_encO (comb a b) with e | ⟨cs, e⟩ <;> rw [e] at gp ⊢ <;> simp -implicitDefEqProofs only [awl, ne_eq, srcRows, awo, aggEq, eqF, litEq, andO, qwl, qwo, Go.Ab.qOp, lop, oneK, stepOp, pairO, pureOp, heapOp, entry, slotsOf, ev, evL, evP, evO, lk, up, St.put, St.drop, constAV, cellAV, cellsAV, plain, binV, nilCmp, intBin, strBin, guardBit, boolOf, fnOf, intOfAV, bound, resOf, retV, moved, rowOf, valAt, Kd.agg, AV.cells, splice, places, fillAV, rowsFill, Hp.none, ↓reduceIte, reduceCtorEq, Nat.reduceLT, Nat.reduceEqDiff, Nat.reduceAdd, Nat.reduceLeDiff, Nat.reducePow, Nat.reduceMul, Yzz, Xzz, Yzy, tyW] <;> exact kexpo (.agg (allc gp alln))
theorem None_spec : KCall Try.prog 21 [] (encB none) := by
  refine KCall_of (SCall_intro Try.func21 rfl Try.ntmps21 (rs := [.cell 0 28]) rfl (by simp) ?_)
  simp -implicitDefEqProofs only [awl, ne_eq, srcRows, awo, aggEq, eqF, litEq, andO, qwl, qwo, Go.Ab.qOp, lop, oneK, stepOp, pairO, pureOp, heapOp, entry, slotsOf, ev, evL, evP, evO, lk, up, St.put, St.drop, constAV, cellAV, cellsAV, plain, binV, nilCmp, intBin, strBin, guardBit, boolOf, fnOf, intOfAV, bound, resOf, retV, moved, rowOf, valAt, Kd.agg, AV.cells, splice, places, fillAV, rowsFill, Hp.none, ↓reduceIte, reduceCtorEq, Nat.reduceLT, Nat.reduceEqDiff, Nat.reduceAdd, Nat.reduceLeDiff, Nat.reducePow, Nat.reduceMul, Yzz, Xzz, Yzy, tyW, encB, encO]
  exact kexpo (gp_encB none)
theorem Empty_spec : KCall Try.prog 24 [] (encB (some (.mk true []))) := by
  refine KCall_of (SCall_intro Try.func24 rfl Try.ntmps24 (rs := [.cell 0 28]) rfl (by simp) ?_)
  simp -implicitDefEqProofs only [awl, ne_eq, srcRows, awo, aggEq, eqF, litEq, andO, qwl, qwo, Go.Ab.qOp, lop, oneK, stepOp, pairO, pureOp, heapOp, entry, slotsOf, ev, evL, evP, evO, lk, up, St.put, St.drop, constAV, cellAV, cellsAV, plain, binV, nilCmp, intBin, strBin, guardBit, boolOf, fnOf, intOfAV, bound, resOf, retV, moved, rowOf, valAt, Kd.agg, AV.cells, splice, places, fillAV, rowsFill, Hp.none, ↓reduceIte, reduceCtorEq, Nat.reduceLT, Nat.reduceEqDiff, Nat.reduceAdd, Nat.reduceLeDiff, Nat.reducePow, Nat.reduceMul, Yzz, Xzz, Yzy, tyW, encB, encO, encT_eq, encWs]
  exact kexpo_node (f := true) rfl (by simp)
theorem Push_spec (a : Option Tr) (s l : Int) : KCall Try.prog 22 [encB a, .agg [.lit (.int .i64 s), .lit (.int .i64 l)]] (encB (pushO s l a)) := by
  refine KCall_of (SCall_intro Try.func22 rfl Try.ntmps22 (rs := [.cell 4 28]) rfl (by simp) ?_)
  cases a with
  | none =>
    simp -implicitDefEqProofs only [awl, ne_eq, srcRows, awo, aggEq, eqF, litEq, andO, qwl, qwo, Go.Ab.qOp, lop, oneK, stepOp, pairO, pureOp, heapOp, entry, slotsOf, ev, evL, evP, evO, lk, up, St.put, St.drop, constAV, cellAV, cellsAV, plain, binV, nilCmp, intBin, strBin, guardBit, boolOf, fnOf, intOfAV, bound, resOf, retV, moved, rowOf, valAt, Kd.agg, AV.cells, splice, places, fillAV, rowsFill, Hp.none, ↓reduceIte, reduceCtorEq, Nat.reduceLT, Nat.reduceEqDiff, Nat.reduceAdd, Nat.reduceLeDiff, Nat.reducePow, Nat.reduceMul, Yzz, Xzz, Yzy, tyW, encB, encO, pushO]
    exact kexpo (gp_encB none)
  | some x =>
    have gw := gp_encW (.mk s l x)
    obtain ⟨b1, ws⟩ := x
    simp -implicitDefEqProofs only [awl, ne_eq, srcRows, awo, aggEq, eqF, litEq, andO, qwl, qwo, Go.Ab.qOp, lop, oneK, stepOp, pairO, pureOp, heapOp, entry, slotsOf, ev, evL, evP, evO, lk, up, St.put, St.drop, constAV, cellAV, cellsAV, plain, binV, nilCmp, intBin, strBin, guardBit, boolOf, fnOf, intOfAV, bound, resOf, retV, moved, rowOf, valAt, Kd.agg, AV.cells, splice, places, fillAV, rowsFill, Hp.none, ↓reduceIte, reduceCtorEq, Nat.reduceLT, Nat.reduceEqDiff, Nat.reduceAdd, Nat.reduceLeDiff, Nat.reducePow, Nat.reduceMul, Yzz, Xzz, Yzy, tyW, encB, encO, pushO, encT_eq, encWs, encW] at gw ⊢
    exact kexpo_node (f := true) rfl (allc gw alln)
theorem Bare_spec (a : Option Tr) : KCall Try.prog 12 [encB a] (.lit (.bool (bareO a))) := by
  refine KCall_of (SCall_intro Try.func12 rfl Try.ntmps12 (rs := [.tmp 2]) rfl (by simp) ?_)
  cases a with
  | none =>
    simp -implicitDefEqProofs only [awl, ne_eq, srcRows, awo, aggEq, eqF, litEq, andO, qwl, qwo, Go.Ab.qOp, lop, oneK, stepOp, pairO, pureOp, heapOp, entry, slotsOf, ev, evL, evP, evO, lk, up, St.put, St.drop, constAV, cellAV, cellsAV, plain, binV, nilCmp, intBin, strBin, guardBit, boolOf, fnOf, intOfAV, bound, resOf, retV, moved, rowOf, valAt, Kd.agg, AV.cells, splice, places, fillAV, rowsFill, Hp.none, ↓reduceIte, reduceCtorEq, Nat.reduceLT, Nat.reduceEqDiff, Nat.reduceAdd, Nat.reduceLeDiff, Nat.reducePow, Nat.reduceMul, Yzz, Xzz, Yzy, tyW, encB, encO, bareO]
    exact kexpo (.lit _)
  | some x =>
    obtain ⟨b1, ws⟩ := x
    simp -implicitDefEqProofs only [awl, ne_eq, srcRows, awo, aggEq, eqF, litEq, andO, qwl, qwo, Go.Ab.qOp, lop, oneK, stepOp, pairO, pureOp, heapOp, entry, slotsOf, ev, evL, evP, evO, lk, up, St.put, St.drop, constAV, cellAV, cellsAV, plain, binV, nilCmp, intBin, strBin, guardBit, boolOf, fnOf, intOfAV, bound, resOf, retV, moved, rowOf, valAt, Kd.agg, AV.cells, splice, places, fillAV, rowsFill, Hp.none, ↓reduceIte, reduceCtorEq, Nat.reduceLT, Nat.reduceEqDiff, Nat.reduceAdd, Nat.reduceLeDiff, Nat.reducePow, Nat.reduceMul, Yzz, Xzz, Yzy, tyW, encB, encO, encT_eq, bareO, Tr.bare]
    exact kexpo (.lit _)
end Go.Proofs.Ytfnmdmadaljjkaa
end

section
namespace Go.Proofs.Ytfnmdmadaljjkaa
open Go.Ab
set_option linter.unusedSimpArgs false
set_option linter.unusedVariables false
set_option maxRecDepth 20000
set_option maxHeartbeats 4000000

theorem cinv1 {kb va : AV} (h : cinv 1 kb va) : isPP kb := by
  obtain ⟨a, b, rfl, _⟩ := h
  exact ⟨_, _, rfl, isP_encO a, isP_encO b⟩
theorem isPP_O (a b : Option Tr) : isPP (.agg [encO a, encO b]) := ⟨_, _, rfl, isP_encO a, isP_encO b⟩
/-- What was found the same is asked. -/
theorem lookB {K : St → Prop} {σ : St} {d : Option Tmp} {t t2 kt et : TypeId} {x y : Operand} {pos : String} {af : Array Edge} {gu : Option (Nat × Bool)} {a b : Option Tr}
    (hm : Try.prog.underlying t = some (.map kt et)) (hk : KeyOk Try.prog kt isPP) (hz : (Try.prog.info? et).bind (·.zero) = some (.bool false))
    (hx : Ab.ev σ x = some (.mp 1)) (hy : Ab.ev σ y = some (.agg [encO a, encO b])) (h : ∀ q : Bool, (q = true → a = b) → K (σ.put d (.lit (.bool q)))) :
    stepK Try.prog ⟨d, .lookup t x y false, t2, pos, af, gu⟩ none K σ := by
  refine stepK_lookup (tag := 1) (ka := .agg [encO a, encO b]) (za := .lit (.bool false)) (zv := .bool false) (S := isPP) hm hk (fun _ _ => cinv1) hz (fun g => .lit rfl) hx hy (isPP_O _ _) (h false (fun e => by cases e)) ?_
  rintro kb va ⟨a', b', rfl, q, rfl, hab⟩ hs
  obtain ⟨e1, e2⟩ := same_pair hs
  refine h q fun hq => ?_
  rw [same_encO e1, same_encO e2]
  exact hab hq
def smS (b1 b2 : Bool) (ws vs : List Wy) (i : Nat) (_ : Unit) : St :=
  ⟨[(53, .lit (.int .i64 (i : Int))), (52, .lit (.int .i64 (ws.length : Int))), (0, .np [.lit (.bool b1), .vec (ws.map encW) false]), (1, .np [.lit (.bool b2), .vec (vs.map encW) false]), (2, .mp 1)], .none, 99⟩
theorem sameC (n m : Nat) (b1 b2 : Bool) (ws vs : List Wy) (r : Bool) (hr : r = true ↔ Tr.mk b1 ws = Tr.mk b2 vs) (lw : ws.length ≤ 2000000000) (lv : vs.length ≤ 2000000000)
    (ih : ∀ w ∈ ws, ∀ v ∈ vs, ∀ q : Bool, (q = true ↔ w.t = v.t) → KCall Try.prog 45 [encT w.t, encT v.t, .mp 1] (.lit (.bool q))) :
    KCall Try.prog 45 [encT (.mk b1 ws), encT (.mk b2 vs), .mp 1] (.lit (.bool r)) := by
  refine KCall_of (SCall_intro Try.func45 rfl Try.ntmps45 (rs := [.tmp 6]) rfl (by simp) ?_)
  simp -implicitDefEqProofs only [awl, ne_eq, srcRows, awo, aggEq, eqF, litEq, andO, qwl, qwo, Go.Ab.qOp, lop, oneK, stepOp, pairO, pureOp, heapOp, entry, slotsOf, ev, evL, evP, evO, lk, up, St.put, St.drop, constAV, cellAV, cellsAV, plain, binV, nilCmp, intBin, strBin, guardBit, boolOf, fnOf, intOfAV, bound, resOf, retV, moved, rowOf, valAt, Kd.agg, AV.cells, splice, places, fillAV, rowsFill, Hp.none, ↓reduceIte, reduceCtorEq, Nat.reduceLT, Nat.reduceEqDiff, Nat.reduceAdd, Nat.reduceLeDiff, Nat.reducePow, Nat.reduceMul, Yzz, Xzz, Yzy, tyW, encT_eq, encWs_map]
  refine stepK_eql_np ptrNode (.inr ⟨_, rfl⟩) (.inr ⟨_, rfl⟩) rfl rfl fun q hq => ?_
  cases q
  · simp -implicitDefEqProofs only [awl, ne_eq, srcRows, awo, aggEq, eqF, litEq, andO, qwl, qwo, Go.Ab.qOp, lop, oneK, stepOp, pairO, pureOp, heapOp, entry, slotsOf, ev, evL, evP, evO, lk, up, St.put, St.drop, constAV, cellAV, cellsAV, plain, binV, nilCmp, intBin, strBin, guardBit, boolOf, fnOf, intOfAV, bound, resOf, retV, moved, rowOf, valAt, Kd.agg, AV.cells, splice, places, fillAV, rowsFill, Hp.none, ↓reduceIte, reduceCtorEq, Nat.reduceLT, Nat.reduceEqDiff, Nat.reduceAdd, Nat.reduceLeDiff, Nat.reducePow, Nat.reduceMul, Yzz, Xzz, Yzy, tyW]
    refine lookB (a := some (.mk b1 ws)) (b := some (.mk b2 vs)) rfl (.pair pairNode) rfl rfl (by simp only [encO, encT_eq, encWs_map]; rfl) fun q hq => ?_
    cases q
    · simp -implicitDefEqProofs only [awl, ne_eq, srcRows, awo, aggEq, eqF, litEq, andO, qwl, qwo, Go.Ab.qOp, lop, oneK, stepOp, pairO, pureOp, heapOp, entry, slotsOf, ev, evL, evP, evO, lk, up, St.put, St.drop, constAV, cellAV, cellsAV, plain, binV, nilCmp, intBin, strBin, guardBit, boolOf, fnOf, intOfAV, bound, resOf, retV, moved, rowOf, valAt, Kd.agg, AV.cells, splice, places, fillAV, rowsFill, Hp.none, ↓reduceIte, reduceCtorEq, Nat.reduceLT, Nat.reduceEqDiff, Nat.reduceAdd, Nat.reduceLeDiff, Nat.reducePow, Nat.reduceMul, Yzz, Xzz, Yzy, tyW]
      refine aw_quietN (n := 99) rfl (by decide) mixed ?_
      by_cases hb : b1 = b2
      · have e1 : (b1 == b2) = true := by simpa using hb
        by_cases hl : ws.length = vs.length
        · have e2 : ((ws.length : Int) == (vs.length : Int)) = true := by rw [beq_iff_eq]; omega
          simp -implicitDefEqProofs only [awl, ne_eq, srcRows, awo, aggEq, eqF, litEq, andO, qwl, qwo, Go.Ab.qOp, lop, oneK, stepOp, pairO, pureOp, heapOp, entry, slotsOf, ev, evL, evP, evO, lk, up, St.put, St.drop, constAV, cellAV, cellsAV, plain, binV, nilCmp, intBin, strBin, guardBit, boolOf, fnOf, intOfAV, bound, resOf, retV, moved, rowOf, valAt, Kd.agg, AV.cells, splice, places, fillAV, rowsFill, Hp.none, ↓reduceIte, reduceCtorEq, Nat.reduceLT, Nat.reduceEqDiff, Nat.reduceAdd, Nat.reduceLeDiff, Nat.reducePow, Nat.reduceMul, Yzz, Xzz, Yzy, tyW, List.length_map, e1, e2, bne, Bool.not_true, Bool.not_false]
          refine aw_for ws.length 0 (smS b1 b2 ws vs) (fun i _ => ∀ j, j < i → ws[j]? = vs[j]?) (fun i _ => rfl) () (St.wk_slots (by simp [lk])) (fun j h => by omega) (fun i _ hlt hI => ?_) (fun _ hI => ?_)
          · have i1 : (i : Int) < (ws.length : Int) := by omega
            have j1 : (i : Int) < (vs.length : Int) := by omega
            have ncast : ∀ n : Nat, (0 : Int) ≤ (n : Int) := Int.natCast_nonneg
            obtain ⟨w, hw⟩ : ∃ w, ws[i]? = some w := ⟨_, List.getElem?_eq_getElem hlt⟩
            obtain ⟨v, hv⟩ : ∃ v, vs[i]? = some v := ⟨_, List.getElem?_eq_getElem (by omega)⟩
            have gw := map_getD encW hw
            have gv := map_getD encW hv
            have hwm : w ∈ ws := List.mem_of_getElem? hw
            have hvm : v ∈ vs := List.mem_of_getElem? hv
            rcases w with ⟨s, l, t⟩
            rcases v with ⟨s', l', t'⟩
            simp -implicitDefEqProofs only [awl, ne_eq, srcRows, awo, aggEq, eqF, litEq, andO, qwl, qwo, Go.Ab.qOp, lop, oneK, stepOp, pairO, pureOp, heapOp, entry, slotsOf, ev, evL, evP, evO, lk, up, St.put, St.drop, constAV, cellAV, cellsAV, plain, binV, nilCmp, intBin, strBin, guardBit, boolOf, fnOf, intOfAV, bound, resOf, retV, moved, rowOf, valAt, Kd.agg, AV.cells, splice, places, fillAV, rowsFill, Hp.none, ↓reduceIte, reduceCtorEq, Nat.reduceLT, Nat.reduceEqDiff, Nat.reduceAdd, Nat.reduceLeDiff, Nat.reducePow, Nat.reduceMul, Yzz, Xzz, Yzy, tyW, smS, List.length_map, i1, decide_true]
            refine aw_quietN (n := 99) rfl (by decide) mixed ?_
            have no : Wy.mk s l t ≠ Wy.mk s' l' t' → r = false := fun hne => by
              cases r
              · rfl
              · have := hr.1 rfl
                cases this
                rw [hw] at hv
                exact absurd (Option.some.inj hv) hne
            by_cases hf : s = s' ∧ l = l'
            · obtain ⟨rfl, rfl⟩ := hf
              by_cases ht : t = t'
              · subst ht
                simp -implicitDefEqProofs only [awl, ne_eq, srcRows, awo, aggEq, eqF, litEq, andO, qwl, qwo, Go.Ab.qOp, lop, oneK, stepOp, pairO, pureOp, heapOp, entry, slotsOf, ev, evL, evP, evO, lk, up, St.put, St.drop, constAV, cellAV, cellsAV, plain, binV, nilCmp, intBin, strBin, guardBit, boolOf, fnOf, intOfAV, bound, resOf, retV, moved, rowOf, valAt, Kd.agg, AV.cells, splice, places, fillAV, rowsFill, Hp.none, ↓reduceIte, reduceCtorEq, Nat.reduceLT, Nat.reduceEqDiff, Nat.reduceAdd, Nat.reduceLeDiff, Nat.reducePow, Nat.reduceMul, Yzz, Xzz, Yzy, tyW, List.length_map, i1, j1, gw, gv, ncast, Int.toNat_natCast, encW, bne, beq_self_eq_true, Bool.and_self, Bool.not_true, Bool.not_false]
                refine CallQ_k call45 (ih _ hwm _ hvm true (by simp [Wy.t])) (allc (gp_encT _) (allc (gp_encT _) (allc (.mp 1) alln))) (.lit _) ?_
                simp -implicitDefEqProofs (disch := omega) only [awl, ne_eq, srcRows, awo, aggEq, eqF, litEq, andO, qwl, qwo, Go.Ab.qOp, lop, oneK, stepOp, pairO, pureOp, heapOp, entry, slotsOf, ev, evL, evP, evO, lk, up, St.put, St.drop, constAV, cellAV, cellsAV, plain, binV, nilCmp, intBin, strBin, guardBit, boolOf, fnOf, intOfAV, bound, resOf, retV, moved, rowOf, valAt, Kd.agg, AV.cells, splice, places, fillAV, rowsFill, Hp.none, ↓reduceIte, reduceCtorEq, Nat.reduceLT, Nat.reduceEqDiff, Nat.reduceAdd, Nat.reduceLeDiff, Nat.reducePow, Nat.reduceMul, Yzz, Xzz, Yzy, tyW, i64w, Bool.not_true, Bool.not_false]
                refine ⟨(), fun j hj => ?_, St.wk.cp (St.wk_slots (by simp [lk]))⟩
                rcases Nat.lt_succ_iff_lt_or_eq.1 hj with hj | rfl
                · exact hI j hj
                · rw [hw, hv]
              · rw [no (fun h => ht (by simpa using h))]
                simp -implicitDefEqProofs only [awl, ne_eq, srcRows, awo, aggEq, eqF, litEq, andO, qwl, qwo, Go.Ab.qOp, lop, oneK, stepOp, pairO, pureOp, heapOp, entry, slotsOf, ev, evL, evP, evO, lk, up, St.put, St.drop, constAV, cellAV, cellsAV, plain, binV, nilCmp, intBin, strBin, guardBit, boolOf, fnOf, intOfAV, bound, resOf, retV, moved, rowOf, valAt, Kd.agg, AV.cells, splice, places, fillAV, rowsFill, Hp.none, ↓reduceIte, reduceCtorEq, Nat.reduceLT, Nat.reduceEqDiff, Nat.reduceAdd, Nat.reduceLeDiff, Nat.reducePow, Nat.reduceMul, Yzz, Xzz, Yzy, tyW, List.length_map, i1, j1, gw, gv, ncast, Int.toNat_natCast, encW, bne, beq_self_eq_true, Bool.and_self, Bool.not_true, Bool.not_false]
                refine CallQ_k call45 (ih _ hwm _ hvm false (by simpa [Wy.t] using ht)) (allc (gp_encT _) (allc (gp_encT _) (allc (.mp 1) alln))) (.lit _) ?_
                simp -implicitDefEqProofs only [awl, ne_eq, srcRows, awo, aggEq, eqF, litEq, andO, qwl, qwo, Go.Ab.qOp, lop, oneK, stepOp, pairO, pureOp, heapOp, entry, slotsOf, ev, evL, evP, evO, lk, up, St.put, St.drop, constAV, cellAV, cellsAV, plain, binV, nilCmp, intBin, strBin, guardBit, boolOf, fnOf, intOfAV, bound, resOf, retV, moved, rowOf, valAt, Kd.agg, AV.cells, splice, places, fillAV, rowsFill, Hp.none, ↓reduceIte, reduceCtorEq, Nat.reduceLT, Nat.reduceEqDiff, Nat.reduceAdd, Nat.reduceLeDiff, Nat.reducePow, Nat.reduceMul, Yzz, Xzz, Yzy, tyW, Bool.not_true, Bool.not_false]
                exact kexpo (.lit _)
            · have ff : (s == s' && (l == l' && true)) = false := by
                cases h : (s == s' && (l == l' && true))
                · rfl
                · exact absurd (by simpa using h) hf
              rw [no (fun h => hf (by simp at h; exact ⟨h.1, h.2.1⟩))]
              simp -implicitDefEqProofs only [awl, ne_eq, srcRows, awo, aggEq, eqF, litEq, andO, qwl, qwo, Go.Ab.qOp, lop, oneK, stepOp, pairO, pureOp, heapOp, entry, slotsOf, ev, evL, evP, evO, lk, up, St.put, St.drop, constAV, cellAV, cellsAV, plain, binV, nilCmp, intBin, strBin, guardBit, boolOf, fnOf, intOfAV, bound, resOf, retV, moved, rowOf, valAt, Kd.agg, AV.cells, splice, places, fillAV, rowsFill, Hp.none, ↓reduceIte, reduceCtorEq, Nat.reduceLT, Nat.reduceEqDiff, Nat.reduceAdd, Nat.reduceLeDiff, Nat.reducePow, Nat.reduceMul, Yzz, Xzz, Yzy, tyW, List.length_map, i1, j1, gw, gv, ncast, Int.toNat_natCast, encW, bne, ff, Bool.not_true, Bool.not_false]
              exact kexpo (.lit _)
          · have i2 : ¬ (ws.length : Int) < (ws.length : Int) := by omega
            have hws : ws = vs := by
              refine List.ext_getElem? fun j => ?_
              rcases Nat.lt_or_ge j ws.length with h | h
              · exact hI j h
              · rw [List.getElem?_eq_none h, List.getElem?_eq_none (by omega)]
            rw [hr.2 (by rw [hb, hws])]
            simp -implicitDefEqProofs only [awl, ne_eq, srcRows, awo, aggEq, eqF, litEq, andO, qwl, qwo, Go.Ab.qOp, lop, oneK, stepOp, pairO, pureOp, heapOp, entry, slotsOf, ev, evL, evP, evO, lk, up, St.put, St.drop, constAV, cellAV, cellsAV, plain, binV, nilCmp, intBin, strBin, guardBit, boolOf, fnOf, intOfAV, bound, resOf, retV, moved, rowOf, valAt, Kd.agg, AV.cells, splice, places, fillAV, rowsFill, Hp.none, ↓reduceIte, reduceCtorEq, Nat.reduceLT, Nat.reduceEqDiff, Nat.reduceAdd, Nat.reduceLeDiff, Nat.reducePow, Nat.reduceMul, Yzz, Xzz, Yzy, tyW, smS, List.length_map, i2, decide_false]
            refine stepK_mapUpdate (tag := 1) (S := isPP) (ka := .agg [encO (some (.mk b1 ws)), encO (some (.mk b2 vs))]) (va := .lit (.bool true)) rfl (.pair pairNode) (fun _ _ => cinv1) rfl (by simp only [encO, encT_eq, encWs_map]; rfl) rfl (isPP_O _ _) ⟨_, _, rfl, true, rfl, fun _ => by rw [hb, hws]⟩ (.agg (allc (gp_encO _) (allc (gp_encO _) alln))) (.lit _) ?_
            simp -implicitDefEqProofs only [awl, ne_eq, srcRows, awo, aggEq, eqF, litEq, andO, qwl, qwo, Go.Ab.qOp, lop, oneK, stepOp, pairO, pureOp, heapOp, entry, slotsOf, ev, evL, evP, evO, lk, up, St.put, St.drop, constAV, cellAV, cellsAV, plain, binV, nilCmp, intBin, strBin, guardBit, boolOf, fnOf, intOfAV, bound, resOf, retV, moved, rowOf, valAt, Kd.agg, AV.cells, splice, places, fillAV, rowsFill, Hp.none, ↓reduceIte, reduceCtorEq, Nat.reduceLT, Nat.reduceEqDiff, Nat.reduceAdd, Nat.reduceLeDiff, Nat.reducePow, Nat.reduceMul, Yzz, Xzz, Yzy, tyW]
            exact kexpo (.lit _)
        · have e2 : ((ws.length : Int) == (vs.length : Int)) = false := by rw [beq_eq_false_iff_ne]; omega
          have hf : r = false := by
            cases r
            · rfl
            · have := hr.1 rfl; cases this; exact absurd rfl hl
          subst hf
          simp -implicitDefEqProofs only [awl, ne_eq, srcRows, awo, aggEq, eqF, litEq, andO, qwl, qwo, Go.Ab.qOp, lop, oneK, stepOp, pairO, pureOp, heapOp, entry, slotsOf, ev, evL, evP, evO, lk, up, St.put, St.drop, constAV, cellAV, cellsAV, plain, binV, nilCmp, intBin, strBin, guardBit, boolOf, fnOf, intOfAV, bound, resOf, retV, moved, rowOf, valAt, Kd.agg, AV.cells, splice, places, fillAV, rowsFill, Hp.none, ↓reduceIte, reduceCtorEq, Nat.reduceLT, Nat.reduceEqDiff, Nat.reduceAdd, Nat.reduceLeDiff, Nat.reducePow, Nat.reduceMul, Yzz, Xzz, Yzy, tyW, List.length_map, e1, e2, bne, Bool.not_true, Bool.not_false]
          exact kexpo (.lit _)
      · have e1 : (b1 == b2) = false := by simpa using hb
        have hf : r = false := by
          cases r
          · rfl
          · have := hr.1 rfl; cases this; exact absurd rfl hb
        subst hf
        simp -implicitDefEqProofs only [awl, ne_eq, srcRows, awo, aggEq, eqF, litEq, andO, qwl, qwo, Go.Ab.qOp, lop, oneK, stepOp, pairO, pureOp, heapOp, entry, slotsOf, ev, evL, evP, evO, lk, up, St.put, St.drop, constAV, cellAV, cellsAV, plain, binV, nilCmp, intBin, strBin, guardBit, boolOf, fnOf, intOfAV, bound, resOf, retV, moved, rowOf, valAt, Kd.agg, AV.cells, splice, places, fillAV, rowsFill, Hp.none, ↓reduceIte, reduceCtorEq, Nat.reduceLT, Nat.reduceEqDiff, Nat.reduceAdd, Nat.reduceLeDiff, Nat.reducePow, Nat.reduceMul, Yzz, Xzz, Yzy, tyW, List.length_map, e1, bne, Bool.not_true, Bool.not_false]
        exact kexpo (.lit _)
    · have : some (Tr.mk b1 ws) = some (Tr.mk b2 vs) := hq rfl
      rw [hr.2 (Option.some.inj this)]
      simp -implicitDefEqProofs only [awl, ne_eq, srcRows, awo, aggEq, eqF, litEq, andO, qwl, qwo, Go.Ab.qOp, lop, oneK, stepOp, pairO, pureOp, heapOp, entry, slotsOf, ev, evL, evP, evO, lk, up, St.put, St.drop, constAV, cellAV, cellsAV, plain, binV, nilCmp, intBin, strBin, guardBit, boolOf, fnOf, intOfAV, bound, resOf, retV, moved, rowOf, valAt, Kd.agg, AV.cells, splice, places, fillAV, rowsFill, Hp.none, ↓reduceIte, reduceCtorEq, Nat.reduceLT, Nat.reduceEqDiff, Nat.reduceAdd, Nat.reduceLeDiff, Nat.reducePow, Nat.reduceMul, Yzz, Xzz, Yzy, tyW]
      exact kexpo (.lit _)
  · have : Tr.mk b1 ws = Tr.mk b2 vs := same_encT (by rw [encT_eq, encT_eq, encWs_map, encWs_map]; exact hq rfl)
    rw [hr.2 this]
    simp -implicitDefEqProofs only [awl, ne_eq, srcRows, awo, aggEq, eqF, litEq, andO, qwl, qwo, Go.Ab.qOp, lop, oneK, stepOp, pairO, pureOp, heapOp, entry, slotsOf, ev, evL, evP, evO, lk, up, St.put, St.drop, constAV, cellAV, cellsAV, plain, binV, nilCmp, intBin, strBin, guardBit, boolOf, fnOf, intOfAV, bound, resOf, retV, moved, rowOf, valAt, Kd.agg, AV.cells, splice, places, fillAV, rowsFill, Hp.none, ↓reduceIte, reduceCtorEq, Nat.reduceLT, Nat.reduceEqDiff, Nat.reduceAdd, Nat.reduceLeDiff, Nat.reducePow, Nat.reduceMul, Yzz, Xzz, Yzy, tyW]
    exact kexpo (.lit _)
theorem Bnd.mono {n m : Nat} (h : n ≤ m) : ∀ {t : Tr}, Bnd n t → Bnd m t
  | .mk b ws, k => .mk (Nat.le_trans k.len h) fun w hw => Bnd.mono h (k.kid w hw)
termination_by t => szT t
decreasing_by exact szT_kid hw
theorem sameT (n : Nat) (hn : n ≤ 2000000000) : ∀ (a b : Tr) (r : Bool), (r = true ↔ a = b) → Bnd n a → Bnd n b → KCall Try.prog 45 [encT a, encT b, .mp 1] (.lit (.bool r))
  | .mk b1 ws, .mk b2 vs, r, hr, na, nb => sameC n n b1 b2 ws vs r hr (Nat.le_trans na.len hn) (Nat.le_trans nb.len hn) fun w hw v hv q hq => sameT n hn w.t v.t q hq (na.kid w hw) (nb.kid v hv)
termination_by a => szT a
decreasing_by exact szT_kid hw
theorem sameO (n : Nat) (hn : n ≤ 2000000000) (a b : Option Tr) (r : Bool) (hr : r = true ↔ a = b) (na : BndO n a) (nb : BndO n b) : KCall Try.prog 45 [encO a, encO b, .mp 1] (.lit (.bool r)) := by
  cases a with
  | none =>
    cases b with
    | none =>
      rw [hr.2 rfl]
      refine KCall_of (SCall_intro Try.func45 rfl Try.ntmps45 (rs := [.tmp 6]) rfl (by simp) ?_)
      simp -implicitDefEqProofs only [awl, ne_eq, srcRows, awo, aggEq, eqF, litEq, andO, qwl, qwo, Go.Ab.qOp, lop, oneK, stepOp, pairO, pureOp, heapOp, entry, slotsOf, ev, evL, evP, evO, lk, up, St.put, St.drop, constAV, cellAV, cellsAV, plain, binV, nilCmp, intBin, strBin, guardBit, boolOf, fnOf, intOfAV, bound, resOf, retV, moved, rowOf, valAt, Kd.agg, AV.cells, splice, places, fillAV, rowsFill, Hp.none, ↓reduceIte, reduceCtorEq, Nat.reduceLT, Nat.reduceEqDiff, Nat.reduceAdd, Nat.reduceLeDiff, Nat.reducePow, Nat.reduceMul, Yzz, Xzz, Yzy, tyW, encO]
      exact kexpo (.lit _)
    | some y =>
      have hf : r = false := by
        cases r
        · rfl
        · cases hr.1 rfl
      subst hf
      obtain ⟨b2, vs⟩ := y
      refine KCall_of (SCall_intro Try.func45 rfl Try.ntmps45 (rs := [.tmp 6]) rfl (by simp) ?_)
      simp -implicitDefEqProofs only [awl, ne_eq, srcRows, awo, aggEq, eqF, litEq, andO, qwl, qwo, Go.Ab.qOp, lop, oneK, stepOp, pairO, pureOp, heapOp, entry, slotsOf, ev, evL, evP, evO, lk, up, St.put, St.drop, constAV, cellAV, cellsAV, plain, binV, nilCmp, intBin, strBin, guardBit, boolOf, fnOf, intOfAV, bound, resOf, retV, moved, rowOf, valAt, Kd.agg, AV.cells, splice, places, fillAV, rowsFill, Hp.none, ↓reduceIte, reduceCtorEq, Nat.reduceLT, Nat.reduceEqDiff, Nat.reduceAdd, Nat.reduceLeDiff, Nat.reducePow, Nat.reduceMul, Yzz, Xzz, Yzy, tyW, encO, encT_eq]
      refine stepK_eql_np ptrNode (.inl rfl) (.inr ⟨_, rfl⟩) rfl rfl fun q hq => ?_
      have hq : q = false := by
        cases q
        · rfl
        · cases same_encO (a := none) (b := some (.mk b2 vs)) (by rw [encO, encO, encT_eq]; exact hq rfl)
      subst hq
      simp -implicitDefEqProofs only [awl, ne_eq, srcRows, awo, aggEq, eqF, litEq, andO, qwl, qwo, Go.Ab.qOp, lop, oneK, stepOp, pairO, pureOp, heapOp, entry, slotsOf, ev, evL, evP, evO, lk, up, St.put, St.drop, constAV, cellAV, cellsAV, plain, binV, nilCmp, intBin, strBin, guardBit, boolOf, fnOf, intOfAV, bound, resOf, retV, moved, rowOf, valAt, Kd.agg, AV.cells, splice, places, fillAV, rowsFill, Hp.none, ↓reduceIte, reduceCtorEq, Nat.reduceLT, Nat.reduceEqDiff, Nat.reduceAdd, Nat.reduceLeDiff, Nat.reducePow, Nat.reduceMul, Yzz, Xzz, Yzy, tyW]
      refine lookB (a := none) (b := some (.mk b2 vs)) rfl (.pair pairNode) rfl rfl (by simp only [encO, encT_eq]; rfl) fun q hq => ?_
      have hq : q = false := by
        cases q
        · rfl
        · cases hq rfl
      subst hq
      simp -implicitDefEqProofs only [awl, ne_eq, srcRows, awo, aggEq, eqF, litEq, andO, qwl, qwo, Go.Ab.qOp, lop, oneK, stepOp, pairO, pureOp, heapOp, entry, slotsOf, ev, evL, evP, evO, lk, up, St.put, St.drop, constAV, cellAV, cellsAV, plain, binV, nilCmp, intBin, strBin, guardBit, boolOf, fnOf, intOfAV, bound, resOf, retV, moved, rowOf, valAt, Kd.agg, AV.cells, splice, places, fillAV, rowsFill, Hp.none, ↓reduceIte, reduceCtorEq, Nat.reduceLT, Nat.reduceEqDiff, Nat.reduceAdd, Nat.reduceLeDiff, Nat.reducePow, Nat.reduceMul, Yzz, Xzz, Yzy, tyW]
      refine aw_quietN (n := 99) rfl (by decide) mixed ?_
      simp -implicitDefEqProofs only [awl, ne_eq, srcRows, awo, aggEq, eqF, litEq, andO, qwl, qwo, Go.Ab.qOp, lop, oneK, stepOp, pairO, pureOp, heapOp, entry, slotsOf, ev, evL, evP, evO, lk, up, St.put, St.drop, constAV, cellAV, cellsAV, plain, binV, nilCmp, intBin, strBin, guardBit, boolOf, fnOf, intOfAV, bound, resOf, retV, moved, rowOf, valAt, Kd.agg, AV.cells, splice, places, fillAV, rowsFill, Hp.none, ↓reduceIte, reduceCtorEq, Nat.reduceLT, Nat.reduceEqDiff, Nat.reduceAdd, Nat.reduceLeDiff, Nat.reducePow, Nat.reduceMul, Yzz, Xzz, Yzy, tyW]
      exact kexpo (.lit _)
  | some x =>
    cases b with
    | none =>
      have hf : r = false := by
        cases r
        · rfl
        · cases hr.1 rfl
      subst hf
      obtain ⟨b1, ws⟩ := x
      refine KCall_of (SCall_intro Try.func45 rfl Try.ntmps45 (rs := [.tmp 6]) rfl (by simp) ?_)
      simp -implicitDefEqProofs only [awl, ne_eq, srcRows, awo, aggEq, eqF, litEq, andO, qwl, qwo, Go.Ab.qOp, lop, oneK, stepOp, pairO, pureOp, heapOp, entry, slotsOf, ev, evL, evP, evO, lk, up, St.put, St.drop, constAV, cellAV, cellsAV, plain, binV, nilCmp, intBin, strBin, guardBit, boolOf, fnOf, intOfAV, bound, resOf, retV, moved, rowOf, valAt, Kd.agg, AV.cells, splice, places, fillAV, rowsFill, Hp.none, ↓reduceIte, reduceCtorEq, Nat.reduceLT, Nat.reduceEqDiff, Nat.reduceAdd, Nat.reduceLeDiff, Nat.reducePow, Nat.reduceMul, Yzz, Xzz, Yzy, tyW, encO, encT_eq]
      refine lookB (a := some (.mk b1 ws)) (b := none) rfl (.pair pairNode) rfl rfl (by simp only [encO, encT_eq]; rfl) fun q hq => ?_
      have hq : q = false := by
        cases q
        · rfl
        · cases hq rfl
      subst hq
      simp -implicitDefEqProofs only [awl, ne_eq, srcRows, awo, aggEq, eqF, litEq, andO, qwl, qwo, Go.Ab.qOp, lop, oneK, stepOp, pairO, pureOp, heapOp, entry, slotsOf, ev, evL, evP, evO, lk, up, St.put, St.drop, constAV, cellAV, cellsAV, plain, binV, nilCmp, intBin, strBin, guardBit, boolOf, fnOf, intOfAV, bound, resOf, retV, moved, rowOf, valAt, Kd.agg, AV.cells, splice, places, fillAV, rowsFill, Hp.none, ↓reduceIte, reduceCtorEq, Nat.reduceLT, Nat.reduceEqDiff, Nat.reduceAdd, Nat.reduceLeDiff, Nat.reducePow, Nat.reduceMul, Yzz, Xzz, Yzy, tyW]
      refine aw_quietN (n := 99) rfl (by decide) mixed ?_
      simp -implicitDefEqProofs only [awl, ne_eq, srcRows, awo, aggEq, eqF, litEq, andO, qwl, qwo, Go.Ab.qOp, lop, oneK, stepOp, pairO, pureOp, heapOp, entry, slotsOf, ev, evL, evP, evO, lk, up, St.put, St.drop, constAV, cellAV, cellsAV, plain, binV, nilCmp, intBin, strBin, guardBit, boolOf, fnOf, intOfAV, bound, resOf, retV, moved, rowOf, valAt, Kd.agg, AV.cells, splice, places, fillAV, rowsFill, Hp.none, ↓reduceIte, reduceCtorEq, Nat.reduceLT, Nat.reduceEqDiff, Nat.reduceAdd, Nat.reduceLeDiff, Nat.reducePow, Nat.reduceMul, Yzz, Xzz, Yzy, tyW]
      exact kexpo (.lit _)
    | some y => exact sameT n hn x y r (by rw [hr]; simp) (na x rfl) (nb y rfl)
theorem Same_spec (n : Nat) (hn : n ≤ 2000000000) (a b : Option Tr) (r : Bool) (hr : r = true ↔ a = b) (na : BndO n a) (nb : BndO n b) : KCall Try.prog 16 [encB a, encB b] (.lit (.bool r)) := by
  refine KCall_of (SCall_intro Try.func16 rfl Try.ntmps16 (rs := [.tmp 4]) rfl (by simp) ?_)
  simp -implicitDefEqProofs only [awl, ne_eq, srcRows, awo, aggEq, eqF, litEq, andO, qwl, qwo, Go.Ab.qOp, lop, oneK, stepOp, pairO, pureOp, heapOp, entry, slotsOf, ev, evL, evP, evO, lk, up, St.put, St.drop, constAV, cellAV, cellsAV, plain, binV, nilCmp, intBin, strBin, guardBit, boolOf, fnOf, intOfAV, bound, resOf, retV, moved, rowOf, valAt, Kd.agg, AV.cells, splice, places, fillAV, rowsFill, Hp.none, ↓reduceIte, reduceCtorEq, Nat.reduceLT, Nat.reduceEqDiff, Nat.reduceAdd, Nat.reduceLeDiff, Nat.reducePow, Nat.reduceMul, Yzz, Xzz, Yzy, tyW, encB]
  refine stepK_makeMap 1 ?_
  simp -implicitDefEqProofs only [awl, ne_eq, srcRows, awo, aggEq, eqF, litEq, andO, qwl, qwo, Go.Ab.qOp, lop, oneK, stepOp, pairO, pureOp, heapOp, entry, slotsOf, ev, evL, evP, evO, lk, up, St.put, St.drop, constAV, cellAV, cellsAV, plain, binV, nilCmp, intBin, strBin, guardBit, boolOf, fnOf, intOfAV, bound, resOf, retV, moved, rowOf, valAt, Kd.agg, AV.cells, splice, places, fillAV, rowsFill, Hp.none, ↓reduceIte, reduceCtorEq, Nat.reduceLT, Nat.reduceEqDiff, Nat.reduceAdd, Nat.reduceLeDiff, Nat.reducePow, Nat.reduceMul, Yzz, Xzz, Yzy, tyW]
  refine CallK_k call45 (sameO n hn a b r hr na nb) (allc (gp_encO _) (allc (gp_encO _) (allc (.mp 1) alln))) (.lit _) ?_
  simp -implicitDefEqProofs only [awl, ne_eq, srcRows, awo, aggEq, eqF, litEq, andO, qwl, qwo, Go.Ab.qOp, lop, oneK, stepOp, pairO, pureOp, heapOp, entry, slotsOf, ev, evL, evP, evO, lk, up, St.put, St.drop, constAV, cellAV, cellsAV, plain, binV, nilCmp, intBin, strBin, guardBit, boolOf, fnOf, intOfAV, bound, resOf, retV, moved, rowOf, valAt, Kd.agg, AV.cells, splice, places, fillAV, rowsFill, Hp.none, ↓reduceIte, reduceCtorEq, Nat.reduceLT, Nat.reduceEqDiff, Nat.reduceAdd, Nat.reduceLeDiff, Nat.reducePow, Nat.reduceMul, Yzz, Xzz, Yzy, tyW]
  exact kexpo (.lit _)
end Go.Proofs.Ytfnmdmadaljjkaa
end

section
namespace Go.Proofs.Ytfnmdmadaljjkaa
open Go.Ab
set_option linter.unusedSimpArgs false
set_option linter.unusedVariables false
set_option maxRecDepth 20000
set_option maxHeartbeats 4000000

def cw (s l : Int) (w : Wy) : Int := cmpF w.s w.l s l
def lb (s l : Int) (ws : List Wy) : Nat := ws.findIdx fun w => !decide (cw s l w < 0)
theorem cw_mono {s l : Int} {v w : Wy} (h : ltW v w) (k : cw s l w ≤ 0) : cw s l v < 0 := by
  unfold cw ltW at *
  rcases cmpF_val v.s v.l s l with h1 | h1 | h1 <;> rcases cmpF_val w.s w.l s l with h2 | h2 | h2 <;> omega
theorem cw_zero {s l : Int} {w : Wy} : cw s l w = 0 ↔ w.s = s ∧ w.l = l := by
  unfold cw; rcases cmpF_val w.s w.l s l with h | h | h <;> omega
theorem srt_get : ∀ {ws : List Wy}, Srt ws → ∀ {i j : Nat} {v w : Wy}, i < j → ws[i]? = some v → ws[j]? = some w → ltW v w
  | [], _, i, j, v, w, _, h1, _ => by simp at h1
  | x :: ws, h, 0, 0, v, w, hlt, _, _ => by omega
  | x :: ws, h, 0, j + 1, v, w, _, h1, h2 => by
    simp only [List.getElem?_cons_zero, Option.some.injEq, List.getElem?_cons_succ] at h1 h2
    subst h1
    exact h.1 w (List.mem_of_getElem? h2)
  | x :: ws, h, i + 1, 0, v, w, hlt, _, _ => by omega
  | x :: ws, h, i + 1, j + 1, v, w, hlt, h1, h2 => srt_get h.2 (i := i) (j := j) (by omega) (by simpa using h1) (by simpa using h2)
theorem lb_gt {s l : Int} {ws : List Wy} (hs : Srt ws) {h : Nat} {w : Wy} (hw : ws[h]? = some w) (hc : cw s l w < 0) : h < lb s l ws := by
  rcases Nat.lt_or_ge h (lb s l ws) with q | q
  · exact q
  · exfalso
    have hh := (List.getElem?_eq_some_iff.1 hw).1
    have hlt : lb s l ws < ws.length := Nat.lt_of_le_of_lt q hh
    obtain ⟨v, hv⟩ : ∃ v, ws[lb s l ws]? = some v := ⟨_, List.getElem?_eq_getElem hlt⟩
    have h1 : ¬ cw s l v < 0 := by
      have := List.findIdx_getElem (p := fun w => !decide (cw s l w < 0)) (w := hlt)
      simp only [Bool.not_eq_true', decide_eq_false_iff_not] at this
      rw [← (List.getElem?_eq_some_iff.1 hv).2]
      exact this
    rcases Nat.lt_or_eq_of_le q with q | q
    · exact h1 (cw_mono (srt_get hs q hv hw) (Int.le_of_lt hc))
    · rw [q, hw] at hv
      exact h1 (by rw [← Option.some.inj hv]; exact hc)
theorem lb_le {s l : Int} {ws : List Wy} {h : Nat} {w : Wy} (hw : ws[h]? = some w) (hc : ¬ cw s l w < 0) : lb s l ws ≤ h := by
  rcases Nat.lt_or_ge h (lb s l ws) with q | q
  · exfalso
    have := List.not_of_lt_findIdx q
    obtain ⟨hh, e⟩ := List.getElem?_eq_some_iff.1 hw
    rw [e] at this
    simp only [Bool.not_eq_false', decide_eq_true_eq] at this
    exact hc this
  · exact q
theorem find_lb {s l : Int} : ∀ {ws : List Wy}, Srt ws → (∀ w, ws[lb s l ws]? = some w → findW s l ws = if cw s l w = 0 then some w.t else none) ∧ (ws.length ≤ lb s l ws → findW s l ws = none)
  | ws, hs => by
    refine ⟨fun w hw => ?_, fun h => ?_⟩
    · by_cases h0 : cw s l w = 0
      · rw [if_pos h0]
        have := findW_of_mem hs (List.mem_of_getElem? hw)
        rw [(cw_zero.1 h0).1, (cw_zero.1 h0).2] at this
        exact this
      · rw [if_neg h0]
        refine findW_none fun v hv q => ?_
        obtain ⟨k, hk⟩ := List.getElem?_of_mem hv
        have h1 := lb_le hk (s := s) (l := l) (by rw [cw_zero.2 q]; omega)
        rcases Nat.lt_or_eq_of_le h1 with h2 | h2
        · have h3 := srt_get hs h2 hw hk
          have h4 := lb_gt hs hw (cw_mono h3 (by rw [cw_zero.2 q]; omega))
          omega
        · rw [← h2, hw] at hk
          rw [Option.some.inj hk] at h0
          exact h0 (cw_zero.2 q)
    · refine findW_none fun v hv q => ?_
      obtain ⟨k, hk⟩ := List.getElem?_of_mem hv
      have h1 := lb_le hk (s := s) (l := l) (by rw [cw_zero.2 q]; omega)
      have h2 := (List.getElem?_eq_some_iff.1 hk).1
      omega

theorem below1_spec (w : Wy) (s l : Int) : KCall Try.prog 48 [.agg (encW w), .agg [.lit (.int .i64 s), .lit (.int .i64 l)]] (.lit (.int .i64 (cw s l w))) := by
  refine KCall_of (SCall_intro Try.func48 rfl Try.ntmps48 (rs := [.tmp 4]) rfl (by simp) ?_)
  simp -implicitDefEqProofs only [awl, ne_eq, srcRows, awo, aggEq, eqF, litEq, andO, qwl, qwo, Go.Ab.qOp, lop, oneK, stepOp, pairO, pureOp, heapOp, entry, slotsOf, ev, evL, evP, evO, lk, up, St.put, St.drop, constAV, cellAV, cellsAV, plain, binV, nilCmp, intBin, strBin, guardBit, boolOf, fnOf, intOfAV, bound, resOf, retV, moved, rowOf, valAt, Kd.agg, AV.cells, splice, places, fillAV, rowsFill, Hp.none, ↓reduceIte, reduceCtorEq, Nat.reduceLT, Nat.reduceEqDiff, Nat.reduceAdd, Nat.reduceLeDiff, Nat.reducePow, Nat.reduceMul, Yzz, Xzz, Yzy, tyW, encW_eq]
  refine CallK_pure call39 (spec39 w.s w.l s l) (allc (.agg (by simp [Pure.lit])) (allc (.agg (by simp [Pure.lit])) alln)) (.lit _) ?_
  simp -implicitDefEqProofs only [awl, ne_eq, srcRows, awo, aggEq, eqF, litEq, andO, qwl, qwo, Go.Ab.qOp, lop, oneK, stepOp, pairO, pureOp, heapOp, entry, slotsOf, ev, evL, evP, evO, lk, up, St.put, St.drop, constAV, cellAV, cellsAV, plain, binV, nilCmp, intBin, strBin, guardBit, boolOf, fnOf, intOfAV, bound, resOf, retV, moved, rowOf, valAt, Kd.agg, AV.cells, splice, places, fillAV, rowsFill, Hp.none, ↓reduceIte, reduceCtorEq, Nat.reduceLT, Nat.reduceEqDiff, Nat.reduceAdd, Nat.reduceLeDiff, Nat.reducePow, Nat.reduceMul, Yzz, Xzz, Yzy, tyW]
  exact kexpo (.lit _)
def bsS (s l : Int) (ws : List Wy) (i j : Nat) : St :=
  ⟨[(10, .lit (.int .i64 (j : Int))), (9, .lit (.int .i64 (i : Int))), (8, .lit (.int .i64 (ws.length : Int))), (4, .ptr 0 0), (0, .vec (ws.map encW) false), (2, .fn (.func 48) [] [])], ⟨[(0, [.lit (.int .i64 s), .lit (.int .i64 l)])], [], 1⟩, 49⟩
theorem search_spec (ws : List Wy) (hs : Srt ws) (hl : ws.length ≤ 2000000000) (s l : Int) : KCall Try.prog 47 [.vec (ws.map encW) false, .agg [.lit (.int .i64 s), .lit (.int .i64 l)], .fn (.func 48) [] []]
    (.tup [.lit (.int .i64 (lb s l ws : Int)), .lit (.bool (findW s l ws).isSome)]) := by
  have hlb : lb s l ws ≤ ws.length := List.findIdx_le_length
  refine KCall_of (SCall_intro Try.func47 rfl Try.ntmps47 (rs := [.tmp 6, .tmp 7]) rfl (by simp) ?_)
  simp -implicitDefEqProofs only [awl, ne_eq, srcRows, awo, aggEq, eqF, litEq, andO, qwl, qwo, Go.Ab.qOp, lop, oneK, stepOp, pairO, pureOp, heapOp, entry, slotsOf, ev, evL, evP, evO, lk, up, St.put, St.drop, constAV, cellAV, cellsAV, plain, binV, nilCmp, intBin, strBin, guardBit, boolOf, fnOf, intOfAV, bound, resOf, retV, moved, rowOf, valAt, Kd.agg, AV.cells, splice, places, fillAV, rowsFill, Hp.none, ↓reduceIte, reduceCtorEq, Nat.reduceLT, Nat.reduceEqDiff, Nat.reduceAdd, Nat.reduceLeDiff, Nat.reducePow, Nat.reduceMul, Yzz, Xzz, Yzy, tyW, List.length_map]
  refine aw_loopC 1 (fun n σ => ∃ i j, n = j - i ∧ i ≤ lb s l ws ∧ lb s l ws ≤ j ∧ j ≤ ws.length ∧ σ = bsS s l ws i j) (fun n σ ⟨i, j, _, _, _, _, e⟩ => by rw [e]; rfl) (St.wk_slots1 (by simp [lk]) (by simp [lk]) (fun t => rfl)) ws.length ⟨0, ws.length, by simp, Nat.zero_le _, hlb, Nat.le_refl _, rfl⟩ ?_
  rintro n σ ⟨i, j, rfl, h1, h2, h3, rfl⟩
  have ncast : ∀ n : Nat, (0 : Int) ≤ (n : Int) := Int.natCast_nonneg
  rcases Nat.lt_or_ge i j with hij | hij
  · have i1 : (i : Int) < (j : Int) := by omega
    have hh : (i + j) / 2 < ws.length := by omega
    have sh : ∀ a : Int, a.fdiv (2 ^ min (Int.toNat 1) IntKind.u64.bits) = a.fdiv 2 := fun a => rfl
    have w1 : IntKind.i64.wrap ((i : Int) + (j : Int)) = ((i + j : Nat) : Int) := i64w (by omega) (by omega)
    have w2 : IntKind.u64.wrap ((i + j : Nat) : Int) = ((i + j : Nat) : Int) := IntWalk.u64_in _ ⟨by omega, by omega⟩
    have w3 : (((i + j : Nat) : Int)).fdiv 2 = (((i + j) / 2 : Nat) : Int) := by rw [Int.fdiv_eq_ediv_of_nonneg _ (by omega)]; rfl
    have w4 : IntKind.i64.wrap (((i + j) / 2 : Nat) : Int) = (((i + j) / 2 : Nat) : Int) := i64w (by omega) (by omega)
    have n1 : ¬ (1 : Int) < 0 := by decide
    have h1 : (((i + j) / 2 : Nat) : Int) < (ws.length : Int) := by omega
    obtain ⟨w, hw⟩ : ∃ w, ws[(i + j) / 2]? = some w := ⟨_, List.getElem?_eq_getElem hh⟩
    have gw := map_getD encW hw
    have hwm : w ∈ ws := List.mem_of_getElem? hw
    have hl7 := encW_length w
    simp -implicitDefEqProofs only [awl, ne_eq, srcRows, awo, aggEq, eqF, litEq, andO, qwl, qwo, Go.Ab.qOp, lop, oneK, stepOp, pairO, pureOp, heapOp, entry, slotsOf, ev, evL, evP, evO, lk, up, St.put, St.drop, constAV, cellAV, cellsAV, plain, binV, nilCmp, intBin, strBin, guardBit, boolOf, fnOf, intOfAV, bound, resOf, retV, moved, rowOf, valAt, Kd.agg, AV.cells, splice, places, fillAV, rowsFill, Hp.none, ↓reduceIte, reduceCtorEq, Nat.reduceLT, Nat.reduceEqDiff, Nat.reduceAdd, Nat.reduceLeDiff, Nat.reducePow, Nat.reduceMul, Yzz, Xzz, Yzy, tyW, bsS, i1, decide_true, n1, if_false, sh, w1, w2, w3, w4, h1, ncast, Int.toNat_natCast, gw, hl7, encW_take, List.length_map]
    refine aw_quietN (n := 49) rfl (by decide) mixed ?_
    simp -implicitDefEqProofs only [awl, ne_eq, srcRows, awo, aggEq, eqF, litEq, andO, qwl, qwo, Go.Ab.qOp, lop, oneK, stepOp, pairO, pureOp, heapOp, entry, slotsOf, ev, evL, evP, evO, lk, up, St.put, St.drop, constAV, cellAV, cellsAV, plain, binV, nilCmp, intBin, strBin, guardBit, boolOf, fnOf, intOfAV, bound, resOf, retV, moved, rowOf, valAt, Kd.agg, AV.cells, splice, places, fillAV, rowsFill, Hp.none, ↓reduceIte, reduceCtorEq, Nat.reduceLT, Nat.reduceEqDiff, Nat.reduceAdd, Nat.reduceLeDiff, Nat.reducePow, Nat.reduceMul, Yzz, Xzz, Yzy, tyW, h1, ncast, Int.toNat_natCast, gw, hl7, encW_take, List.length_map]
    refine CallQ_k call48 (below1_spec w s l) (allc (.agg (gp_encW w)) (allc (.agg (allc (.lit _) (allc (.lit _) alln))) alln)) (.lit _) ?_
    simp -implicitDefEqProofs only [awl, ne_eq, srcRows, awo, aggEq, eqF, litEq, andO, qwl, qwo, Go.Ab.qOp, lop, oneK, stepOp, pairO, pureOp, heapOp, entry, slotsOf, ev, evL, evP, evO, lk, up, St.put, St.drop, constAV, cellAV, cellsAV, plain, binV, nilCmp, intBin, strBin, guardBit, boolOf, fnOf, intOfAV, bound, resOf, retV, moved, rowOf, valAt, Kd.agg, AV.cells, splice, places, fillAV, rowsFill, Hp.none, ↓reduceIte, reduceCtorEq, Nat.reduceLT, Nat.reduceEqDiff, Nat.reduceAdd, Nat.reduceLeDiff, Nat.reducePow, Nat.reduceMul, Yzz, Xzz, Yzy, tyW]
    refine .intro (fun hc => ?_) (fun hc => ?_)
    · have hc : cw s l w < 0 := of_decide_eq_true hc
      have := lb_gt hs hw hc
      have w5 : IntKind.i64.wrap ((((i + j) / 2 : Nat) : Int) + 1) = (((i + j) / 2 + 1 : Nat) : Int) := i64w (by omega) (by omega)
      simp -implicitDefEqProofs only [awl, ne_eq, srcRows, awo, aggEq, eqF, litEq, andO, qwl, qwo, Go.Ab.qOp, lop, oneK, stepOp, pairO, pureOp, heapOp, entry, slotsOf, ev, evL, evP, evO, lk, up, St.put, St.drop, constAV, cellAV, cellsAV, plain, binV, nilCmp, intBin, strBin, guardBit, boolOf, fnOf, intOfAV, bound, resOf, retV, moved, rowOf, valAt, Kd.agg, AV.cells, splice, places, fillAV, rowsFill, Hp.none, ↓reduceIte, reduceCtorEq, Nat.reduceLT, Nat.reduceEqDiff, Nat.reduceAdd, Nat.reduceLeDiff, Nat.reducePow, Nat.reduceMul, Yzz, Xzz, Yzy, tyW, w5]
      exact ⟨_, j - ((i + j) / 2 + 1), St.wk.cp (St.wk_slots (by simp [lk])), by omega, (i + j) / 2 + 1, j, rfl, by omega, by omega, by omega, rfl⟩
    · have hc : ¬ cw s l w < 0 := of_decide_eq_false hc
      have := lb_le hw hc
      simp -implicitDefEqProofs only [awl, ne_eq, srcRows, awo, aggEq, eqF, litEq, andO, qwl, qwo, Go.Ab.qOp, lop, oneK, stepOp, pairO, pureOp, heapOp, entry, slotsOf, ev, evL, evP, evO, lk, up, St.put, St.drop, constAV, cellAV, cellsAV, plain, binV, nilCmp, intBin, strBin, guardBit, boolOf, fnOf, intOfAV, bound, resOf, retV, moved, rowOf, valAt, Kd.agg, AV.cells, splice, places, fillAV, rowsFill, Hp.none, ↓reduceIte, reduceCtorEq, Nat.reduceLT, Nat.reduceEqDiff, Nat.reduceAdd, Nat.reduceLeDiff, Nat.reducePow, Nat.reduceMul, Yzz, Xzz, Yzy, tyW]
      exact ⟨_, (i + j) / 2 - i, St.wk.cp (St.wk_slots (by simp [lk])), by omega, i, (i + j) / 2, rfl, by omega, by omega, by omega, rfl⟩
  · have i1 : ¬ (i : Int) < (j : Int) := by omega
    have hi : i = lb s l ws := by omega
    subst hi
    obtain ⟨f1, f2⟩ := find_lb (s := s) (l := l) hs
    simp -implicitDefEqProofs only [awl, ne_eq, srcRows, awo, aggEq, eqF, litEq, andO, qwl, qwo, Go.Ab.qOp, lop, oneK, stepOp, pairO, pureOp, heapOp, entry, slotsOf, ev, evL, evP, evO, lk, up, St.put, St.drop, constAV, cellAV, cellsAV, plain, binV, nilCmp, intBin, strBin, guardBit, boolOf, fnOf, intOfAV, bound, resOf, retV, moved, rowOf, valAt, Kd.agg, AV.cells, splice, places, fillAV, rowsFill, Hp.none, ↓reduceIte, reduceCtorEq, Nat.reduceLT, Nat.reduceEqDiff, Nat.reduceAdd, Nat.reduceLeDiff, Nat.reducePow, Nat.reduceMul, Yzz, Xzz, Yzy, tyW, bsS, i1, decide_false]
    refine aw_quietN (n := 49) rfl (by decide) mixed ?_
    rcases Nat.lt_or_ge (lb s l ws) ws.length with hh | hh
    · have h4 : ((lb s l ws : Nat) : Int) < (ws.length : Int) := by omega
      obtain ⟨w, hw⟩ : ∃ w, ws[lb s l ws]? = some w := ⟨_, List.getElem?_eq_getElem hh⟩
      have gw := map_getD encW hw
      have hl7 := encW_length w
      rw [f1 w hw]
      simp -implicitDefEqProofs only [awl, ne_eq, srcRows, awo, aggEq, eqF, litEq, andO, qwl, qwo, Go.Ab.qOp, lop, oneK, stepOp, pairO, pureOp, heapOp, entry, slotsOf, ev, evL, evP, evO, lk, up, St.put, St.drop, constAV, cellAV, cellsAV, plain, binV, nilCmp, intBin, strBin, guardBit, boolOf, fnOf, intOfAV, bound, resOf, retV, moved, rowOf, valAt, Kd.agg, AV.cells, splice, places, fillAV, rowsFill, Hp.none, ↓reduceIte, reduceCtorEq, Nat.reduceLT, Nat.reduceEqDiff, Nat.reduceAdd, Nat.reduceLeDiff, Nat.reducePow, Nat.reduceMul, Yzz, Xzz, Yzy, tyW, h4, decide_true, ncast, Int.toNat_natCast, gw, hl7, encW_take, List.length_map]
      refine CallQ_k call48 (below1_spec w s l) (allc (.agg (gp_encW w)) (allc (.agg (allc (.lit _) (allc (.lit _) alln))) alln)) (.lit _) ?_
      simp -implicitDefEqProofs only [awl, ne_eq, srcRows, awo, aggEq, eqF, litEq, andO, qwl, qwo, Go.Ab.qOp, lop, oneK, stepOp, pairO, pureOp, heapOp, entry, slotsOf, ev, evL, evP, evO, lk, up, St.put, St.drop, constAV, cellAV, cellsAV, plain, binV, nilCmp, intBin, strBin, guardBit, boolOf, fnOf, intOfAV, bound, resOf, retV, moved, rowOf, valAt, Kd.agg, AV.cells, splice, places, fillAV, rowsFill, Hp.none, ↓reduceIte, reduceCtorEq, Nat.reduceLT, Nat.reduceEqDiff, Nat.reduceAdd, Nat.reduceLeDiff, Nat.reducePow, Nat.reduceMul, Yzz, Xzz, Yzy, tyW]
      by_cases h0 : cw s l w = 0
      · simp -implicitDefEqProofs only [awl, ne_eq, srcRows, awo, aggEq, eqF, litEq, andO, qwl, qwo, Go.Ab.qOp, lop, oneK, stepOp, pairO, pureOp, heapOp, entry, slotsOf, ev, evL, evP, evO, lk, up, St.put, St.drop, constAV, cellAV, cellsAV, plain, binV, nilCmp, intBin, strBin, guardBit, boolOf, fnOf, intOfAV, bound, resOf, retV, moved, rowOf, valAt, Kd.agg, AV.cells, splice, places, fillAV, rowsFill, Hp.none, ↓reduceIte, reduceCtorEq, Nat.reduceLT, Nat.reduceEqDiff, Nat.reduceAdd, Nat.reduceLeDiff, Nat.reducePow, Nat.reduceMul, Yzz, Xzz, Yzy, tyW, h0, if_true, Option.isSome_some, beq_self_eq_true]
        exact kexpo (.tup (allc (.lit _) (allc (.lit _) alln)))
      · have h5 : (cw s l w == 0) = false := by simpa using h0
        simp -implicitDefEqProofs only [awl, ne_eq, srcRows, awo, aggEq, eqF, litEq, andO, qwl, qwo, Go.Ab.qOp, lop, oneK, stepOp, pairO, pureOp, heapOp, entry, slotsOf, ev, evL, evP, evO, lk, up, St.put, St.drop, constAV, cellAV, cellsAV, plain, binV, nilCmp, intBin, strBin, guardBit, boolOf, fnOf, intOfAV, bound, resOf, retV, moved, rowOf, valAt, Kd.agg, AV.cells, splice, places, fillAV, rowsFill, Hp.none, ↓reduceIte, reduceCtorEq, Nat.reduceLT, Nat.reduceEqDiff, Nat.reduceAdd, Nat.reduceLeDiff, Nat.reducePow, Nat.reduceMul, Yzz, Xzz, Yzy, tyW, h5, if_neg h0, Option.isSome_none]
        exact kexpo (.tup (allc (.lit _) (allc (.lit _) alln)))
    · have h4 : ¬ ((lb s l ws : Nat) : Int) < (ws.length : Int) := by omega
      rw [f2 hh]
      simp -implicitDefEqProofs only [awl, ne_eq, srcRows, awo, aggEq, eqF, litEq, andO, qwl, qwo, Go.Ab.qOp, lop, oneK, stepOp, pairO, pureOp, heapOp, entry, slotsOf, ev, evL, evP, evO, lk, up, St.put, St.drop, constAV, cellAV, cellsAV, plain, binV, nilCmp, intBin, strBin, guardBit, boolOf, fnOf, intOfAV, bound, resOf, retV, moved, rowOf, valAt, Kd.agg, AV.cells, splice, places, fillAV, rowsFill, Hp.none, ↓reduceIte, reduceCtorEq, Nat.reduceLT, Nat.reduceEqDiff, Nat.reduceAdd, Nat.reduceLeDiff, Nat.reducePow, Nat.reduceMul, Yzz, Xzz, Yzy, tyW, h4, decide_false, Option.isSome_none]
      exact kexpo (.tup (allc (.lit _) (allc (.lit _) alln)))
theorem tops1_spec (w : Wy) : KCall Try.prog 43 [.agg (encW w)] (.agg [.lit (.int .i64 w.s), .lit (.int .i64 w.l)]) := by
  refine KCall_of (SCall_intro Try.func43 rfl Try.ntmps43 (rs := [.cell 2 47]) rfl (by simp) ?_)
  simp -implicitDefEqProofs only [awl, ne_eq, srcRows, awo, aggEq, eqF, litEq, andO, qwl, qwo, Go.Ab.qOp, lop, oneK, stepOp, pairO, pureOp, heapOp, entry, slotsOf, ev, evL, evP, evO, lk, up, St.put, St.drop, constAV, cellAV, cellsAV, plain, binV, nilCmp, intBin, strBin, guardBit, boolOf, fnOf, intOfAV, bound, resOf, retV, moved, rowOf, valAt, Kd.agg, AV.cells, splice, places, fillAV, rowsFill, Hp.none, ↓reduceIte, reduceCtorEq, Nat.reduceLT, Nat.reduceEqDiff, Nat.reduceAdd, Nat.reduceLeDiff, Nat.reducePow, Nat.reduceMul, Yzz, Xzz, Yzy, tyW, encW_eq]
  exact kexpo (.agg (allc (.lit _) (allc (.lit _) alln)))
end Go.Proofs.Ytfnmdmadaljjkaa
end

section
namespace Go.Proofs.Ytfnmdmadaljjkaa
open Go.Ab
set_option linter.unusedSimpArgs false
set_option linter.unusedVariables false
set_option maxRecDepth 20000
set_option maxHeartbeats 4000000

theorem cp_drop' {σ σ' : St} {N : Nat} (hN : N ≤ σ'.hp.nx) (hnx : σ'.hp.nx ≤ σ.hp.nx) (hnt : σ'.nt = σ.nt) (hs : ∀ p ∈ σ'.slots, lk σ.slots p.1 = some p.2 ∧ Rn id σ'.hp.nx p.2 p.2)
    (hb : ∀ p ∈ σ'.hp.boxes, p.1 < σ'.hp.nx ∧ lk σ.hp.boxes p.1 = some p.2 ∧ RnL id σ'.hp.nx p.2 p.2)
    (ht : ∀ p ∈ σ'.hp.toks, p.1 < σ'.hp.nx ∧ lk σ.hp.toks p.1 = some p.2 ∧ RnR id σ'.hp.nx p.2.xs p.2.xs) : St.cp N σ σ' := (St.cp_drop hnx hnt hs hb ht).mono hN
theorem tops_cb (w : Wy) {H : Hp} : QCall Try.prog 43 ([] ++ [.agg (encW w)] ++ []) H (.agg [.lit (.int .i64 w.s), .lit (.int .i64 w.l)]) :=
  (tops1_spec w).at (allc (.agg (gp_encW w)) alln) (.agg (allc (.lit _) (allc (.lit _) alln))) H
theorem kexpo_gr {h : Hp} {t s : Nat} {rows : List (List AV)} (hp : ∀ x ∈ rows, ∀ c ∈ x, GP c) (ht : rows ≠ [] → lk h.toks t = some ⟨rows, 0, s⟩) : KExpo h (grA t rows) (.vec rows false) := by
  cases rows with
  | nil =>
    refine KExpo.wk (h' := ⟨[], [], h.nx⟩) (r' := .vec [] false) (St.wk_conv rfl rfl (fun g g' x p hp => ?_) (fun g g' x p hp => by cases hp) (fun g p hp => by cases hp)) (kexpo (.vec hp))
    rcases List.mem_singleton.1 hp with rfl
    exact ⟨_, rfl, cv_full x _ _⟩
  | cons y l =>
    refine KExpo.wk (h' := ⟨[], [], h.nx⟩) (r' := .vec (y :: l) false) (St.wk_freeze (ht (by simp)) rfl rfl (fun g g' x c p hp => ?_) (fun g g' x c p hp => by cases hp) (fun g p hp => by cases hp)) (kexpo (.vec hp))
    rcases List.mem_singleton.1 hp with rfl
    exact ⟨_, rfl, c⟩
theorem Below_spec (n : Nat) (hn : n ≤ 2000000000) (a : Option Tr) (ha : WfO a) (na : BndO n a) (s l : Int) : KCall Try.prog 23 [encB a, .agg [.lit (.int .i64 s), .lit (.int .i64 l)]] (encB (belowO s l a)) := by
  refine KCall_of (SCall_intro Try.func23 rfl Try.ntmps23 (rs := [.cell 4 28]) rfl (by simp) ?_)
  cases a with
  | none =>
    simp -implicitDefEqProofs only [awl, ne_eq, srcRows, awo, aggEq, eqF, litEq, andO, qwl, qwo, Go.Ab.qOp, lop, oneK, stepOp, pairO, pureOp, heapOp, entry, slotsOf, ev, evL, evP, evO, lk, up, St.put, St.drop, constAV, cellAV, cellsAV, plain, binV, nilCmp, intBin, strBin, guardBit, boolOf, fnOf, intOfAV, bound, resOf, retV, moved, rowOf, valAt, Kd.agg, AV.cells, splice, places, fillAV, rowsFill, Hp.none, ↓reduceIte, reduceCtorEq, Nat.reduceLT, Nat.reduceEqDiff, Nat.reduceAdd, Nat.reduceLeDiff, Nat.reducePow, Nat.reduceMul, Yzz, Xzz, Yzy, tyW, encB, encO, belowO]
    exact kexpo (gp_encB none)
  | some x =>
    have wx := ha x rfl
    have nx := na x rfl
    obtain ⟨b1, ws⟩ := x
    have hl : ws.length ≤ 2000000000 := Nat.le_trans nx.len hn
    obtain ⟨f1, f2⟩ := find_lb (s := s) (l := l) wx.srt
    simp -implicitDefEqProofs only [awl, ne_eq, srcRows, awo, aggEq, eqF, litEq, andO, qwl, qwo, Go.Ab.qOp, lop, oneK, stepOp, pairO, pureOp, heapOp, entry, slotsOf, ev, evL, evP, evO, lk, up, St.put, St.drop, constAV, cellAV, cellsAV, plain, binV, nilCmp, intBin, strBin, guardBit, boolOf, fnOf, intOfAV, bound, resOf, retV, moved, rowOf, valAt, Kd.agg, AV.cells, splice, places, fillAV, rowsFill, Hp.none, ↓reduceIte, reduceCtorEq, Nat.reduceLT, Nat.reduceEqDiff, Nat.reduceAdd, Nat.reduceLeDiff, Nat.reducePow, Nat.reduceMul, Yzz, Xzz, Yzy, tyW, encB, encO, encT_eq, encWs_map, belowO, Tr.ws]
    refine aw_quietN (n := 33) rfl (by decide) mixed ?_
    simp -implicitDefEqProofs only [awl, ne_eq, srcRows, awo, aggEq, eqF, litEq, andO, qwl, qwo, Go.Ab.qOp, lop, oneK, stepOp, pairO, pureOp, heapOp, entry, slotsOf, ev, evL, evP, evO, lk, up, St.put, St.drop, constAV, cellAV, cellsAV, plain, binV, nilCmp, intBin, strBin, guardBit, boolOf, fnOf, intOfAV, bound, resOf, retV, moved, rowOf, valAt, Kd.agg, AV.cells, splice, places, fillAV, rowsFill, Hp.none, ↓reduceIte, reduceCtorEq, Nat.reduceLT, Nat.reduceEqDiff, Nat.reduceAdd, Nat.reduceLeDiff, Nat.reducePow, Nat.reduceMul, Yzz, Xzz, Yzy, tyW]
    refine CallQ_k call47 (search_spec ws wx.srt hl s l) (allc (.vec (gp_encWs ws)) (allc (.agg (allc (.lit _) (allc (.lit _) alln))) (allc (.of_pure (.fn alln alln)) alln))) (.tup (allc (.lit _) (allc (.lit _) alln))) ?_
    simp -implicitDefEqProofs only [awl, ne_eq, srcRows, awo, aggEq, eqF, litEq, andO, qwl, qwo, Go.Ab.qOp, lop, oneK, stepOp, pairO, pureOp, heapOp, entry, slotsOf, ev, evL, evP, evO, lk, up, St.put, St.drop, constAV, cellAV, cellsAV, plain, binV, nilCmp, intBin, strBin, guardBit, boolOf, fnOf, intOfAV, bound, resOf, retV, moved, rowOf, valAt, Kd.agg, AV.cells, splice, places, fillAV, rowsFill, Hp.none, ↓reduceIte, reduceCtorEq, Nat.reduceLT, Nat.reduceEqDiff, Nat.reduceAdd, Nat.reduceLeDiff, Nat.reducePow, Nat.reduceMul, Yzz, Xzz, Yzy, tyW]
    have ncast : ∀ n : Nat, (0 : Int) ≤ (n : Int) := Int.natCast_nonneg
    cases hf : findW s l ws with
    | none =>
      simp -implicitDefEqProofs only [awl, ne_eq, srcRows, awo, aggEq, eqF, litEq, andO, qwl, qwo, Go.Ab.qOp, lop, oneK, stepOp, pairO, pureOp, heapOp, entry, slotsOf, ev, evL, evP, evO, lk, up, St.put, St.drop, constAV, cellAV, cellsAV, plain, binV, nilCmp, intBin, strBin, guardBit, boolOf, fnOf, intOfAV, bound, resOf, retV, moved, rowOf, valAt, Kd.agg, AV.cells, splice, places, fillAV, rowsFill, Hp.none, ↓reduceIte, reduceCtorEq, Nat.reduceLT, Nat.reduceEqDiff, Nat.reduceAdd, Nat.reduceLeDiff, Nat.reducePow, Nat.reduceMul, Yzz, Xzz, Yzy, tyW, Option.isSome_none]
      refine CallK_k call21 None_spec alln (gp_encB none) ?_
      simp -implicitDefEqProofs only [awl, ne_eq, srcRows, awo, aggEq, eqF, litEq, andO, qwl, qwo, Go.Ab.qOp, lop, oneK, stepOp, pairO, pureOp, heapOp, entry, slotsOf, ev, evL, evP, evO, lk, up, St.put, St.drop, constAV, cellAV, cellsAV, plain, binV, nilCmp, intBin, strBin, guardBit, boolOf, fnOf, intOfAV, bound, resOf, retV, moved, rowOf, valAt, Kd.agg, AV.cells, splice, places, fillAV, rowsFill, Hp.none, ↓reduceIte, reduceCtorEq, Nat.reduceLT, Nat.reduceEqDiff, Nat.reduceAdd, Nat.reduceLeDiff, Nat.reducePow, Nat.reduceMul, Yzz, Xzz, Yzy, tyW, encB, encO]
      exact kexpo (gp_encB none)
    | some t =>
      have hh : lb s l ws < ws.length := by
        rcases Nat.lt_or_ge (lb s l ws) ws.length with h | h
        · exact h
        · rw [f2 h] at hf; cases hf
      have h4 : ((lb s l ws : Nat) : Int) < (ws.length : Int) := by omega
      obtain ⟨w, hw⟩ : ∃ w, ws[lb s l ws]? = some w := ⟨_, List.getElem?_eq_getElem hh⟩
      have gw := map_getD encW hw
      have hl7 := encW_length w
      have hwt : w.t = t := by
        have := f1 w hw
        rw [hf] at this
        split at this
        · exact (Option.some.inj this).symm
        · cases this
      have gp := gp_encT t
      obtain ⟨cs, hcs⟩ := np_encT t
      rw [encW_eq, hwt, hcs] at gw
      rw [hcs] at gp
      simp -implicitDefEqProofs only [awl, ne_eq, srcRows, awo, aggEq, eqF, litEq, andO, qwl, qwo, Go.Ab.qOp, lop, oneK, stepOp, pairO, pureOp, heapOp, entry, slotsOf, ev, evL, evP, evO, lk, up, St.put, St.drop, constAV, cellAV, cellsAV, plain, binV, nilCmp, intBin, strBin, guardBit, boolOf, fnOf, intOfAV, bound, resOf, retV, moved, rowOf, valAt, Kd.agg, AV.cells, splice, places, fillAV, rowsFill, Hp.none, ↓reduceIte, reduceCtorEq, Nat.reduceLT, Nat.reduceEqDiff, Nat.reduceAdd, Nat.reduceLeDiff, Nat.reducePow, Nat.reduceMul, Yzz, Xzz, Yzy, tyW, Option.isSome_some, h4, ncast, Int.toNat_natCast, gw, List.length_map, encB, encO]
      rw [hcs]
      exact kexpo (.agg (allc gp alln))
def enc2 (w : Wy) : List AV := [.lit (.int .i64 w.s), .lit (.int .i64 w.l)]
theorem pure_enc2 (w : Wy) : ∀ c ∈ enc2 w, Ab.Pure c := by
  intro c hc
  simp only [enc2, List.mem_cons, List.not_mem_nil, or_false] at hc
  rcases hc with rfl | rfl <;> exact .lit _
def eaS (ws : List Wy) (i : Nat) (_ : Unit) : St :=
  ⟨[(10, .lit (.int .i64 (i : Int))), (9, .lit (.int .i64 (ws.length : Int))), (8, .vec (ws.map encW) false), (5, grA 0 ((ws.take i).map enc2)), (1, .fn (.func 43) [] [])], ⟨[], grT 0 2 ((ws.take i).map enc2), grN 0 ((ws.take i).map enc2)⟩, 22⟩
theorem each_spec (ws : List Wy) (hl : ws.length ≤ 2000000000) : KCall Try.prog 42 [.vec (ws.map encW) false, .fn (.func 43) [] []] (.vec (ws.map enc2) false) := by
  refine KCall_of (SCall_intro Try.func42 rfl Try.ntmps42 (rs := [.tmp 4]) rfl (by simp) ?_)
  simp -implicitDefEqProofs only [awl, ne_eq, srcRows, awo, aggEq, eqF, litEq, andO, qwl, qwo, Go.Ab.qOp, lop, oneK, stepOp, pairO, pureOp, heapOp, entry, slotsOf, ev, evL, evP, evO, lk, up, St.put, St.drop, constAV, cellAV, cellsAV, plain, binV, nilCmp, intBin, strBin, guardBit, boolOf, fnOf, intOfAV, bound, resOf, retV, moved, rowOf, valAt, Kd.agg, AV.cells, splice, places, fillAV, rowsFill, Hp.none, ↓reduceIte, reduceCtorEq, Nat.reduceLT, Nat.reduceEqDiff, Nat.reduceAdd, Nat.reduceLeDiff, Nat.reducePow, Nat.reduceMul, Yzz, Xzz, Yzy, tyW, List.length_map]
  refine aw_forE ws.length 0 (eaS ws) (fun i _ => True) (Nat.le_refl _) () (St.wk.cp (St.wk_slots1 (by simp [lk, grA]) (by simp [lk, grA]) (by simp [lk, grT]))) trivial (fun i _ hlt _ => ?_) (fun _ _ => ?_)
  · have i1 : (i : Int) < (ws.length : Int) := by omega
    have ncast : ∀ n : Nat, (0 : Int) ≤ (n : Int) := Int.natCast_nonneg
    obtain ⟨w, hw⟩ : ∃ w, ws[i]? = some w := ⟨_, List.getElem?_eq_getElem hlt⟩
    have gw := map_getD encW hw
    have hl7 := encW_length w
    have tk : (ws.take (i + 1)).map enc2 = (ws.take i).map enc2 ++ [enc2 w] := by rw [List.take_add_one, hw]; simp
    have hlen : ((ws.take i).map enc2).length = i := by rw [List.length_map, List.length_take]; omega
    have hl3 : ∀ q ∈ (ws.take i).map enc2, q.length = 2 := fun q hq => by
      obtain ⟨v, _, rfl⟩ := List.mem_map.1 hq; rfl
    have hfit0 : fits 1 16 := by decide
    unfold eaS
    rw [tk]
    have hpr : ∀ q ∈ (ws.take i).map enc2, ∀ c ∈ q, Ab.Pure c := pure_rows pure_enc2 _
    generalize (ws.take i).map enc2 = r at hlen hl3 hpr ⊢
    cases r with
    | nil =>
      simp -implicitDefEqProofs only [awl, ne_eq, srcRows, awo, aggEq, eqF, litEq, andO, qwl, qwo, Go.Ab.qOp, lop, oneK, stepOp, pairO, pureOp, heapOp, entry, slotsOf, ev, evL, evP, evO, lk, up, St.put, St.drop, constAV, cellAV, cellsAV, plain, binV, nilCmp, intBin, strBin, guardBit, boolOf, fnOf, intOfAV, bound, resOf, retV, moved, rowOf, valAt, Kd.agg, AV.cells, splice, places, fillAV, rowsFill, Hp.none, ↓reduceIte, reduceCtorEq, Nat.reduceLT, Nat.reduceEqDiff, Nat.reduceAdd, Nat.reduceLeDiff, Nat.reducePow, Nat.reduceMul, Yzz, Xzz, Yzy, tyW, i1, decide_true, ncast, Int.toNat_natCast, gw, hl7, encW_take, List.length_map, grA_nil, grT_nil, grN_nil]
      refine CallK_of call43 (tops_cb w) ?_
      rintro rv h' ⟨rfl, rfl⟩
      simp -implicitDefEqProofs (disch := omega) only [awl, ne_eq, srcRows, awo, aggEq, eqF, litEq, andO, qwl, qwo, Go.Ab.qOp, lop, oneK, stepOp, pairO, pureOp, heapOp, entry, slotsOf, ev, evL, evP, evO, lk, up, St.put, St.drop, constAV, cellAV, cellsAV, plain, binV, nilCmp, intBin, strBin, guardBit, boolOf, fnOf, intOfAV, bound, resOf, retV, moved, rowOf, valAt, Kd.agg, AV.cells, splice, places, fillAV, rowsFill, Hp.none, ↓reduceIte, reduceCtorEq, Nat.reduceLT, Nat.reduceEqDiff, Nat.reduceAdd, Nat.reduceLeDiff, Nat.reducePow, Nat.reduceMul, Yzz, Xzz, Yzy, tyW, List.mem_singleton, forall_eq, List.not_mem_nil, false_imp_iff, implies_true, hfit0, i64w]
      refine ⟨(), ?_⟩
      exact St.cp_of 0 [1] (Nat.zero_le _) rfl rfl (by decide) (by show ∀ x ∈ [1], 0 ≤ x ∧ x < 2; decide) (allc ⟨_, rfl, .pure (.lit _)⟩ (allc ⟨_, rfl, .pure (.lit _)⟩ (allc ⟨_, rfl, GP.rn (.vec (gp_encWs ws))⟩ (allc ⟨_, rfl, .own (by show 0 < 1; decide) rfl⟩ (allc ⟨_, rfl, .pure (.fn alln alln)⟩ alln)))))
        alln (allc ⟨by show 0 < 1; decide, _, rfl, rfl, rfl, .pure (by intro r hr c hc; rcases List.mem_singleton.1 hr with rfl; exact pure_enc2 w c hc)⟩ alln)
    | cons x r =>
      simp -implicitDefEqProofs only [awl, ne_eq, srcRows, awo, aggEq, eqF, litEq, andO, qwl, qwo, Go.Ab.qOp, lop, oneK, stepOp, pairO, pureOp, heapOp, entry, slotsOf, ev, evL, evP, evO, lk, up, St.put, St.drop, constAV, cellAV, cellsAV, plain, binV, nilCmp, intBin, strBin, guardBit, boolOf, fnOf, intOfAV, bound, resOf, retV, moved, rowOf, valAt, Kd.agg, AV.cells, splice, places, fillAV, rowsFill, Hp.none, ↓reduceIte, reduceCtorEq, Nat.reduceLT, Nat.reduceEqDiff, Nat.reduceAdd, Nat.reduceLeDiff, Nat.reducePow, Nat.reduceMul, Yzz, Xzz, Yzy, tyW, i1, decide_true, ncast, Int.toNat_natCast, gw, hl7, encW_take, List.length_map, grA_cons, grT_cons, grN_cons]
      refine CallK_of call43 (tops_cb w) ?_
      rintro rv h' ⟨rfl, rfl⟩
      have hfit : fits (r.length + 1 + 1) 16 := by
        simp only [List.length_cons] at hlen
        exact fits_of' (by omega) (by omega)
      simp -implicitDefEqProofs (disch := omega) only [awl, ne_eq, srcRows, awo, aggEq, eqF, litEq, andO, qwl, qwo, Go.Ab.qOp, lop, oneK, stepOp, pairO, pureOp, heapOp, entry, slotsOf, ev, evL, evP, evO, lk, up, St.put, St.drop, constAV, cellAV, cellsAV, plain, binV, nilCmp, intBin, strBin, guardBit, boolOf, fnOf, intOfAV, bound, resOf, retV, moved, rowOf, valAt, Kd.agg, AV.cells, splice, places, fillAV, rowsFill, Hp.none, ↓reduceIte, reduceCtorEq, Nat.reduceLT, Nat.reduceEqDiff, Nat.reduceAdd, Nat.reduceLeDiff, Nat.reducePow, Nat.reduceMul, Yzz, Xzz, Yzy, tyW, hl3, List.mem_singleton, forall_eq, List.not_mem_nil, false_imp_iff, implies_true, hfit, i64w, List.length_append, List.length_cons, List.length_nil]
      refine ⟨(), ?_⟩
      refine cp_drop' (Nat.zero_le _) (by show 1 ≤ 2; decide) rfl (allc ⟨rfl, .pure (.lit _)⟩ (allc ⟨rfl, .pure (.lit _)⟩ (allc ⟨rfl, GP.rn (.vec (gp_encWs ws))⟩ (allc ⟨rfl, .own (by show 0 < 1; decide) rfl⟩ (allc ⟨rfl, .pure (.fn alln alln)⟩ alln))))) alln (allc ⟨by show 0 < 1; decide, rfl, .pure ?_⟩ alln)
      intro y hy c hc
      have hy : y ∈ x :: (r ++ [enc2 w]) := hy
      have : y ∈ (x :: r) ++ [enc2 w] := hy
      rcases List.mem_append.1 this with h | h
      · exact hpr y h c hc
      · rcases List.mem_singleton.1 h with rfl
        exact pure_enc2 w c hc
  · have i1 : ¬ (ws.length : Int) < (ws.length : Int) := by omega
    simp -implicitDefEqProofs only [awl, ne_eq, srcRows, awo, aggEq, eqF, litEq, andO, qwl, qwo, Go.Ab.qOp, lop, oneK, stepOp, pairO, pureOp, heapOp, entry, slotsOf, ev, evL, evP, evO, lk, up, St.put, St.drop, constAV, cellAV, cellsAV, plain, binV, nilCmp, intBin, strBin, guardBit, boolOf, fnOf, intOfAV, bound, resOf, retV, moved, rowOf, valAt, Kd.agg, AV.cells, splice, places, fillAV, rowsFill, Hp.none, ↓reduceIte, reduceCtorEq, Nat.reduceLT, Nat.reduceEqDiff, Nat.reduceAdd, Nat.reduceLeDiff, Nat.reducePow, Nat.reduceMul, Yzz, Xzz, Yzy, tyW, eaS, i1, decide_false, List.take_length]
    refine kexpo_gr (fun x hx c hc => ?_) (fun h => lk_grT' h)
    obtain ⟨w, _, rfl⟩ := List.mem_map.1 hx
    simp only [enc2, List.mem_cons, List.not_mem_nil, or_false] at hc
    rcases hc with rfl | rfl <;> exact .lit _
end Go.Proofs.Ytfnmdmadaljjkaa
end

section
namespace Go.Proofs.Ytfnmdmadaljjkaa
open Go.Ab
set_option linter.unusedSimpArgs false
set_option linter.unusedVariables false
set_option maxRecDepth 20000
set_option maxHeartbeats 4000000

def topsO : Option Tr → List Wy
  | none => []
  | some t => t.ws
theorem Tops_spec (n : Nat) (hn : n ≤ 2000000000) (a : Option Tr) (na : BndO n a) : KCall Try.prog 14 [encB a] (.vec ((topsO a).map enc2) false) := by
  refine KCall_of (SCall_intro Try.func14 rfl Try.ntmps14 (rs := [.tmp 2]) rfl (by simp) ?_)
  have gp : ∀ ws : List Wy, GP (.vec (ws.map enc2) false) := fun ws => .of_pure (.vec (pure_rows pure_enc2 ws))
  cases a with
  | none =>
    simp -implicitDefEqProofs only [awl, ne_eq, srcRows, awo, aggEq, eqF, litEq, andO, qwl, qwo, Go.Ab.qOp, lop, oneK, stepOp, pairO, pureOp, heapOp, entry, slotsOf, ev, evL, evP, evO, lk, up, St.put, St.drop, constAV, cellAV, cellsAV, plain, binV, nilCmp, intBin, strBin, guardBit, boolOf, fnOf, intOfAV, bound, resOf, retV, moved, rowOf, valAt, Kd.agg, AV.cells, splice, places, fillAV, rowsFill, Hp.none, ↓reduceIte, reduceCtorEq, Nat.reduceLT, Nat.reduceEqDiff, Nat.reduceAdd, Nat.reduceLeDiff, Nat.reducePow, Nat.reduceMul, Yzz, Xzz, Yzy, tyW, encB, encO, topsO]
    exact kexpo_gr (t := 0) (s := 2) (rows := []) (by simp) (by simp)
  | some x =>
    have nx := na x rfl
    obtain ⟨b1, ws⟩ := x
    have hl : ws.length ≤ 2000000000 := Nat.le_trans nx.len hn
    simp -implicitDefEqProofs only [awl, ne_eq, srcRows, awo, aggEq, eqF, litEq, andO, qwl, qwo, Go.Ab.qOp, lop, oneK, stepOp, pairO, pureOp, heapOp, entry, slotsOf, ev, evL, evP, evO, lk, up, St.put, St.drop, constAV, cellAV, cellsAV, plain, binV, nilCmp, intBin, strBin, guardBit, boolOf, fnOf, intOfAV, bound, resOf, retV, moved, rowOf, valAt, Kd.agg, AV.cells, splice, places, fillAV, rowsFill, Hp.none, ↓reduceIte, reduceCtorEq, Nat.reduceLT, Nat.reduceEqDiff, Nat.reduceAdd, Nat.reduceLeDiff, Nat.reducePow, Nat.reduceMul, Yzz, Xzz, Yzy, tyW, encB, encO, encT_eq, encWs_map, topsO, Tr.ws]
    refine CallK_k call42 (each_spec ws hl) (allc (.vec (gp_encWs ws)) (allc (.of_pure (.fn alln alln)) alln)) (gp ws) ?_
    simp -implicitDefEqProofs only [awl, ne_eq, srcRows, awo, aggEq, eqF, litEq, andO, qwl, qwo, Go.Ab.qOp, lop, oneK, stepOp, pairO, pureOp, heapOp, entry, slotsOf, ev, evL, evP, evO, lk, up, St.put, St.drop, constAV, cellAV, cellsAV, plain, binV, nilCmp, intBin, strBin, guardBit, boolOf, fnOf, intOfAV, bound, resOf, retV, moved, rowOf, valAt, Kd.agg, AV.cells, splice, places, fillAV, rowsFill, Hp.none, ↓reduceIte, reduceCtorEq, Nat.reduceLT, Nat.reduceEqDiff, Nat.reduceAdd, Nat.reduceLeDiff, Nat.reducePow, Nat.reduceMul, Yzz, Xzz, Yzy, tyW]
    exact kexpo (gp ws)
def encP (p : Int × Int) : List AV := [.lit (.int .i64 p.1), .lit (.int .i64 p.2)]
theorem encP_take (p : Int × Int) : (encP p).take 2 = encP p := rfl
theorem pure_encP (p : Int × Int) : ∀ c ∈ encP p, Ab.Pure c := allc (.lit _) (allc (.lit _) alln)
def emptyO : Option Tr := some (.mk true [])
def ofO (l : List (Int × Int)) : Option Tr := l.foldl (fun b f => pushO f.1 f.2 b) emptyO
theorem ofO_next {l : List (Int × Int)} {i : Nat} {f : Int × Int} (h : l[i]? = some f) : ofO (l.take (i + 1)) = pushO f.1 f.2 (ofO (l.take i)) := by
  unfold ofO
  rw [List.take_add_one, h, List.foldl_append]; rfl
def ofS (l : List (Int × Int)) (fl : Bool) (i : Nat) (_ : Unit) : St :=
  ⟨[(9, .lit (.int .i64 (i : Int))), (8, .lit (.int .i64 (l.length : Int))), (7, .vec (l.map encP) fl), (3, .ptr 1 0), (2, .ptr 0 0)], ⟨[(0, [.lit (.pointer none)]), (1, [encO (ofO (l.take i))])], [], 2⟩, 18⟩
theorem Of_spec (l : List (Int × Int)) (hl : l.length ≤ 2000000000) (fl : Bool := false) : KCall Try.prog 26 [.vec (l.map encP) fl] (encB (ofO l)) := by
  refine KCall_of (SCall_intro Try.func26 rfl Try.ntmps26 (rs := [.cell 2 28]) rfl (by simp) ?_)
  simp -implicitDefEqProofs only [awl, ne_eq, srcRows, awo, aggEq, eqF, litEq, andO, qwl, qwo, Go.Ab.qOp, lop, oneK, stepOp, pairO, pureOp, heapOp, entry, slotsOf, ev, evL, evP, evO, lk, up, St.put, St.drop, constAV, cellAV, cellsAV, plain, binV, nilCmp, intBin, strBin, guardBit, boolOf, fnOf, intOfAV, bound, resOf, retV, moved, rowOf, valAt, Kd.agg, AV.cells, splice, places, fillAV, rowsFill, Hp.none, ↓reduceIte, reduceCtorEq, Nat.reduceLT, Nat.reduceEqDiff, Nat.reduceAdd, Nat.reduceLeDiff, Nat.reducePow, Nat.reduceMul, Yzz, Xzz, Yzy, tyW]
  refine CallK_k call24 Empty_spec alln (gp_encB emptyO) ?_
  simp -implicitDefEqProofs only [awl, ne_eq, srcRows, awo, aggEq, eqF, litEq, andO, qwl, qwo, Go.Ab.qOp, lop, oneK, stepOp, pairO, pureOp, heapOp, entry, slotsOf, ev, evL, evP, evO, lk, up, St.put, St.drop, constAV, cellAV, cellsAV, plain, binV, nilCmp, intBin, strBin, guardBit, boolOf, fnOf, intOfAV, bound, resOf, retV, moved, rowOf, valAt, Kd.agg, AV.cells, splice, places, fillAV, rowsFill, Hp.none, ↓reduceIte, reduceCtorEq, Nat.reduceLT, Nat.reduceEqDiff, Nat.reduceAdd, Nat.reduceLeDiff, Nat.reducePow, Nat.reduceMul, Yzz, Xzz, Yzy, tyW, encB, List.length_map]
  refine aw_forE l.length 2 (ofS l fl) (fun i _ => True) (Nat.le_refl _) () (St.wk.cp (St.wk_slots1 (by simp [lk]) (by simp [lk, ofO, emptyO]) (fun t => rfl))) trivial (fun i _ hlt _ => ?_) (fun _ _ => ?_)
  · have i1 : (i : Int) < (l.length : Int) := by omega
    have ncast : ∀ n : Nat, (0 : Int) ≤ (n : Int) := Int.natCast_nonneg
    obtain ⟨f, hf⟩ : ∃ f, l[i]? = some f := ⟨_, List.getElem?_eq_getElem hlt⟩
    have gw := map_getD encP hf
    have ef : encP f = [.lit (.int .i64 f.1), .lit (.int .i64 f.2)] := rfl
    rw [ef] at gw
    simp -implicitDefEqProofs only [awl, ne_eq, srcRows, awo, aggEq, eqF, litEq, andO, qwl, qwo, Go.Ab.qOp, lop, oneK, stepOp, pairO, pureOp, heapOp, entry, slotsOf, ev, evL, evP, evO, lk, up, St.put, St.drop, constAV, cellAV, cellsAV, plain, binV, nilCmp, intBin, strBin, guardBit, boolOf, fnOf, intOfAV, bound, resOf, retV, moved, rowOf, valAt, Kd.agg, AV.cells, splice, places, fillAV, rowsFill, Hp.none, ↓reduceIte, reduceCtorEq, Nat.reduceLT, Nat.reduceEqDiff, Nat.reduceAdd, Nat.reduceLeDiff, Nat.reducePow, Nat.reduceMul, Yzz, Xzz, Yzy, tyW, ofS, i1, decide_true, ncast, Int.toNat_natCast, gw, List.length_map]
    refine CallK_k call22 (Push_spec (ofO (l.take i)) f.1 f.2) (allc (gp_encB _) (allc (.agg (allc (.lit _) (allc (.lit _) alln))) alln)) (gp_encB _) ?_
    simp -implicitDefEqProofs (disch := omega) only [awl, ne_eq, srcRows, awo, aggEq, eqF, litEq, andO, qwl, qwo, Go.Ab.qOp, lop, oneK, stepOp, pairO, pureOp, heapOp, entry, slotsOf, ev, evL, evP, evO, lk, up, St.put, St.drop, constAV, cellAV, cellsAV, plain, binV, nilCmp, intBin, strBin, guardBit, boolOf, fnOf, intOfAV, bound, resOf, retV, moved, rowOf, valAt, Kd.agg, AV.cells, splice, places, fillAV, rowsFill, Hp.none, ↓reduceIte, reduceCtorEq, Nat.reduceLT, Nat.reduceEqDiff, Nat.reduceAdd, Nat.reduceLeDiff, Nat.reducePow, Nat.reduceMul, Yzz, Xzz, Yzy, tyW, encB, i64w]
    rw [ofO_next hf]
    refine ⟨(), ?_⟩
    exact cp_drop' (by show 2 ≤ 2; decide) (by show 2 ≤ 3; decide) rfl (allc ⟨rfl, .pure (.lit _)⟩ (allc ⟨rfl, .pure (.lit _)⟩ (allc ⟨rfl, .pure (.vec (pure_rows pure_encP l))⟩ (allc ⟨rfl, .ptr (by show 1 < 2; decide) rfl⟩ (allc ⟨rfl, .ptr (by show 0 < 2; decide) rfl⟩ alln)))))
      (allc ⟨by show 0 < 2; decide, rfl, .cons (.pure (.lit _)) .nil⟩ (allc ⟨by show 1 < 2; decide, rfl, .cons (GP.rn (gp_encO _)) .nil⟩ alln)) alln
  · have i1 : ¬ (l.length : Int) < (l.length : Int) := by omega
    simp -implicitDefEqProofs only [awl, ne_eq, srcRows, awo, aggEq, eqF, litEq, andO, qwl, qwo, Go.Ab.qOp, lop, oneK, stepOp, pairO, pureOp, heapOp, entry, slotsOf, ev, evL, evP, evO, lk, up, St.put, St.drop, constAV, cellAV, cellsAV, plain, binV, nilCmp, intBin, strBin, guardBit, boolOf, fnOf, intOfAV, bound, resOf, retV, moved, rowOf, valAt, Kd.agg, AV.cells, splice, places, fillAV, rowsFill, Hp.none, ↓reduceIte, reduceCtorEq, Nat.reduceLT, Nat.reduceEqDiff, Nat.reduceAdd, Nat.reduceLeDiff, Nat.reducePow, Nat.reduceMul, Yzz, Xzz, Yzy, tyW, ofS, i1, decide_false, List.take_length]
    exact kexpo (gp_encB _)
end Go.Proofs.Ytfnmdmadaljjkaa
end
