/- A pass of fold.Tree's loop. Conditions: those that each theorem names. -/
import Derived.Test.YtlifonlohiihiaaF6a
namespace Go.Proofs.Ytlifonlohiihiaa
open Go.Ab
set_option linter.unusedSimpArgs false
set_option linter.unusedVariables false
set_option linter.unnecessarySimpa false

theorem pass_first (k r a tkn ty : Int) (o : Bool) (ks : List Tr) (hs : tsz (.mk k r a tkn ty o ks) ≤ 1000000000) (ih : ∀ q ∈ ks, PCall Try.prog 6 [.agg (enc q)] (.agg (enc (fld q))))
    (ihk : ∀ q ∈ ks, ∀ p ∈ q.kids, PCall Try.prog 6 [.agg (enc p)] (.agg (enc (fld p)))) (rest : Code) (hrest : rest6 = some rest) (i N : Nat) (k1 r1 a1 t1 y1 : Int) (o1 : Bool) (us : List Tr)  (K : AV) (tk : List (Nat × Tk))
    (hrun : frun (.mk k r a tkn ty o ks) i = (.mk k1 r1 a1 t1 y1 o1 us, false)) (hK : KT tk K us) (hkl : us.length ≤ tszs (ks.take i)) (hN : 3 ≤ N) (hi : i ≤ ks.length) (hlt : i < ks.length) (kx rx ax tx yx : Int) (ox : Bool) (xs : List Tr) (hx : ks[i]? = some (.mk kx rx ax tx yx ox xs)) (hst : (k == 0) = true) (hsx : (kx == 1) = true) :
    awp Try.prog rest (jumpK 0 (fun σ => ∃ m, m < ks.length - i ∧ foldJ (.mk k r a tkn ty o ks) m σ) (retK Try.prog [.cell 2 25] fun r' h' => Expo h' r' (.agg (enc (fld (.mk k r a tkn ty o ks)))))) (foldSt (.mk k r a tkn ty o ks) i N (.mk k1 r1 a1 t1 y1 o1 us) false K tk) := by
  have e : rest6 = some _ := rfl
  rw [e] at hrest
  obtain rfl := Option.some.inj hrest
  clear e hrest
  have hus : ∀ u m x : Nat, u ≤ m → m + x ≤ tszs ks → 1 ≤ x → u + 1 ≤ 1000000000 := fun u m x h1 h2 h3 => by simp only [tsz] at hs; omega
  have hlen : ks.length ≤ 1000000000 := by simp only [tsz] at hs; have := tszs_len ks; omega
  have hb : ((i : Int) == (ks.length : Int)) = false := by simp; omega
  have g1 := encs_get ks i _ hx
  have hm : (.mk kx rx ax tx yx ox xs) ∈ ks := List.mem_of_getElem? hx
  have hnn : (0 : Int) ≤ (i : Int) := Int.natCast_nonneg i
  have hi1 : (i : Int) < (ks.length : Int) := by omega
  have hrs := frun_succ (.mk k r a tkn ty o ks) i _ hx
  rw [hrun] at hrs
  have hts := tszs_take_succ ks i _ hx
  have e0 : ¬ N = 0 := by omega
  have e1 : ¬ N = 1 := by omega
  have e2 : ¬ N = 2 := by omega
  have e3 : ¬ 0 = N := by omega
  have e4 : ¬ 1 = N := by omega
  have e5 : ¬ 2 = N := by omega
  simp only [enc] at g1
  have hxs : 1 + xs.length ≤ 1000000000 := by
    have h1 := tsz_mem hm; simp only [tsz] at hs h1; have := tszs_len xs; omega
  simp only [awp_skip, awp_region, awp_draw, awp_seq, awp_cond, awp_block, awp_exit, awp_label, awp_goto, awp_ret, awp_loop, awp_scope, seqK_normal, seqK_ret, seqK_exit, seqK_goto, blockK_normal, blockK_ret, blockK_goto, blockK_exit, jumpK_normal, jumpK_ret, jumpK_exit, stayK_normal, stayK_ret, stayK_exit, retK_normal, retK_ret, awl, gwl_nil, gwl_plain, gwl_guard, guardK_true, guardK_false, SplitO_true, SplitO_false, SplitC_true, SplitC_false, SplitP_true, SplitP_false, condK_some, PickK_some, pickV_some, resK_some, ne_eq, srcRows, awo, aggEq, eqF, litEq, andO, qwl, qwo, qOp, callQ_some, walkT_leaf, walkT_last, walkT_alt, oneK, retW_normal, retW_ret, cutK_normal, cutK_ret, jumpK_goto, stepOp, stepK_val, stepK_none, callK_some, pairO, pureOp, heapOp, entry, slotsOf, ev, evL, evP, evO, lk, up, St.put, St.drop, constAV, cellAV, cellsAV, plain, binV, intBin, strBin, guardBit, boolOf, fnOf, intOfAV, bound, resOf, retV, moved, rowOf, valAt, Kd.agg, AV.cells, splice, places, fillAV, rowsFill, Hp.none, Option.bind_some, Option.bind_none, Option.map_some, Option.map_none, ↓reduceIte, reduceCtorEq, Nat.reduceLT, Nat.reduceEqDiff, Nat.reduceAdd, Nat.reduceLeDiff, Nat.reducePow, Nat.reduceMul, Nat.zero_add, Nat.add_zero, List.getElem?_toArray, List.getElem?_cons_succ, List.getElem?_cons_zero, List.length_cons, List.length_nil, List.drop_succ_cons, List.drop_zero, List.drop_nil, List.take_succ_cons, List.take_zero, List.take_nil, List.cons_append, List.nil_append, List.append_nil, List.set_cons_succ, List.set_cons_zero, List.replicate_succ, List.replicate_zero, and_self, and_true, true_and, Nat.le_refl, Nat.one_ne_zero, not_false_eq_true, not_true_eq_false, true_or, or_true, false_or, or_false, Bool.not_true, Bool.not_false, ty2, ty3, ty4, ty5, ty6, ty7, ty8, ty9, ty10, ty11, ty12, ty13, ty14, ty15, ty16, ty17, ty18, ty19, ty21, ty22, ty23, ty24, ty25, ty38, ty39, nmOk39, ty44, ty45, ty46, ty47, ty48, ty50, ty51, ty52, ty54, ty55, ty56, ty57, ty58, foldSt, cel, enc, Tr.kind, encs_length, hb]
  simp only [awp_skip, awp_region, awp_draw, awp_seq, awp_cond, awp_block, awp_exit, awp_label, awp_goto, awp_ret, awp_loop, awp_scope, seqK_normal, seqK_ret, seqK_exit, seqK_goto, blockK_normal, blockK_ret, blockK_goto, blockK_exit, jumpK_normal, jumpK_ret, jumpK_exit, stayK_normal, stayK_ret, stayK_exit, retK_normal, retK_ret, awl, gwl_nil, gwl_plain, gwl_guard, guardK_true, guardK_false, SplitO_true, SplitO_false, SplitC_true, SplitC_false, SplitP_true, SplitP_false, condK_some, PickK_some, pickV_some, resK_some, ne_eq, srcRows, awo, aggEq, eqF, litEq, andO, qwl, qwo, qOp, callQ_some, walkT_leaf, walkT_last, walkT_alt, oneK, retW_normal, retW_ret, cutK_normal, cutK_ret, jumpK_goto, stepOp, stepK_val, stepK_none, callK_some, pairO, pureOp, heapOp, entry, slotsOf, ev, evL, evP, evO, lk, up, St.put, St.drop, constAV, cellAV, cellsAV, plain, binV, intBin, strBin, guardBit, boolOf, fnOf, intOfAV, bound, resOf, retV, moved, rowOf, valAt, Kd.agg, AV.cells, splice, places, fillAV, rowsFill, Hp.none, Option.bind_some, Option.bind_none, Option.map_some, Option.map_none, ↓reduceIte, reduceCtorEq, Nat.reduceLT, Nat.reduceEqDiff, Nat.reduceAdd, Nat.reduceLeDiff, Nat.reducePow, Nat.reduceMul, Nat.zero_add, Nat.add_zero, List.getElem?_toArray, List.getElem?_cons_succ, List.getElem?_cons_zero, List.length_cons, List.length_nil, List.drop_succ_cons, List.drop_zero, List.drop_nil, List.take_succ_cons, List.take_zero, List.take_nil, List.cons_append, List.nil_append, List.append_nil, List.set_cons_succ, List.set_cons_zero, List.replicate_succ, List.replicate_zero, and_self, and_true, true_and, Nat.le_refl, Nat.one_ne_zero, not_false_eq_true, not_true_eq_false, true_or, or_true, false_or, or_false, Bool.not_true, Bool.not_false, ty2, ty3, ty4, ty5, ty6, ty7, ty8, ty9, ty10, ty11, ty12, ty13, ty14, ty15, ty16, ty17, ty18, ty19, ty21, ty22, ty23, ty24, ty25, ty38, ty39, nmOk39, ty44, ty45, ty46, ty47, ty48, ty50, ty51, ty52, ty54, ty55, ty56, ty57, ty58, encs_length, Int.toNat_natCast, g1, hnn, hi1, e0, e1, e2, e3, e4, e5, hst, hsx]
  have key : ∀ g : Gh, Cv g g K (.vec (encs us) false) → ∀ p ∈ [(0, enc (.mk k r a tkn ty o ks)), (1, [.lit (.int .i8 0), .lit (.int .i64 0), .lit (.int .i64 0), .lit (.int .i64 0), .lit (.int .i64 0), .lit (.bool false), .vec [] true]), (2, [.lit (.int .i8 0), .lit (.int .i64 r), .lit (.int .i64 ax), .lit (.int .i64 0), .lit (.int .i64 0), .lit (.bool ox), .vec (encs [.mk k1 r1 a1 t1 y1 false us]) true])],
      ∃ cs, lk [(0, enc (.mk k r a tkn ty o ks)), (1, [.lit (.int .i8 0), .lit (.int .i64 0), .lit (.int .i64 0), .lit (.int .i64 0), .lit (.int .i64 0), .lit (.bool false), .vec [] true]), (2, [.lit (.int .i8 0), .lit (.int .i64 r), .lit (.int .i64 ax), .lit (.int .i64 0), .lit (.int .i64 0), .lit (.bool ox), .vec [[.lit (.int .i8 k1), .lit (.int .i64 r1), .lit (.int .i64 a1), .lit (.int .i64 t1), .lit (.int .i64 y1), .lit (.bool false), K]] true]), (N, enc (.mk kx rx ax tx yx ox xs))] p.1 = some cs ∧ CvL g g cs p.2 := by
    intro g hc p hp
    simp only [List.mem_cons, List.not_mem_nil, or_false] at hp
    rcases hp with rfl | rfl | rfl
    · exact ⟨_, rfl, cvL_refl (.refl g) _⟩
    · exact ⟨_, rfl, cvL_refl (.refl g) _⟩
    · refine ⟨_, rfl, ?_⟩
      iterate 6 refine cvL_same ?_
      refine cvL_cons (cv_vec (.refl g) ?_) cvL_nil
      simp only [encs, enc]
      refine .cons ?_ rfl .nil
      iterate 6 refine cvL_same ?_
      exact cvL_cons hc cvL_nil
  rcases hK with ⟨rfl, rfl⟩ | ⟨t', fz, rfl, rfl, hfz⟩
  · refine CallK.conv ⟨[(0, enc (.mk k r a tkn ty o ks)), (1, [.lit (.int .i8 0), .lit (.int .i64 0), .lit (.int .i64 0), .lit (.int .i64 0), .lit (.int .i64 0), .lit (.bool false), .vec [] true]), (2, [.lit (.int .i8 0), .lit (.int .i64 r), .lit (.int .i64 ax), .lit (.int .i64 0), .lit (.int .i64 0), .lit (.bool ox), .vec (encs [.mk k1 r1 a1 t1 y1 false us]) true])], [], N + 1⟩ rfl (fun g => key g (cv_full (.refl g) _ _)) (fun g p hp => by cases hp) ?_
    refine CallK_of call15 (carry_frame xs [.mk k1 r1 a1 t1 y1 false us] 2 _ _ _ _ _ _ (.vec (encs [.mk k1 r1 a1 t1 y1 false us]) true) [] (N + 1) _ rfl (by omega) hxs (.inl ⟨rfl, rfl⟩) (ihk _ hm)) ?_
    rintro r' ⟨b1, t1', n1⟩ ⟨c, ⟨rfl, ⟨K', rfl, hK'⟩, hn1⟩, hb1⟩
    simp only at hb1 hK' hn1
    subst hb1
    simp (disch := omega) only [awp_skip, awp_region, awp_draw, awp_seq, awp_cond, awp_block, awp_exit, awp_label, awp_goto, awp_ret, awp_loop, awp_scope, seqK_normal, seqK_ret, seqK_exit, seqK_goto, blockK_normal, blockK_ret, blockK_goto, blockK_exit, jumpK_normal, jumpK_ret, jumpK_exit, stayK_normal, stayK_ret, stayK_exit, retK_normal, retK_ret, awl, gwl_nil, gwl_plain, gwl_guard, guardK_true, guardK_false, SplitO_true, SplitO_false, SplitC_true, SplitC_false, SplitP_true, SplitP_false, condK_some, PickK_some, pickV_some, resK_some, ne_eq, srcRows, awo, aggEq, eqF, litEq, andO, qwl, qwo, qOp, callQ_some, walkT_leaf, walkT_last, walkT_alt, oneK, retW_normal, retW_ret, cutK_normal, cutK_ret, jumpK_goto, stepOp, stepK_val, stepK_none, callK_some, pairO, pureOp, heapOp, entry, slotsOf, ev, evL, evP, evO, lk, up, St.put, St.drop, constAV, cellAV, cellsAV, plain, binV, intBin, strBin, guardBit, boolOf, fnOf, intOfAV, bound, resOf, retV, moved, rowOf, valAt, Kd.agg, AV.cells, splice, places, fillAV, rowsFill, Hp.none, Option.bind_some, Option.bind_none, Option.map_some, Option.map_none, ↓reduceIte, reduceCtorEq, Nat.reduceLT, Nat.reduceEqDiff, Nat.reduceAdd, Nat.reduceLeDiff, Nat.reducePow, Nat.reduceMul, Nat.zero_add, Nat.add_zero, List.getElem?_toArray, List.getElem?_cons_succ, List.getElem?_cons_zero, List.length_cons, List.length_nil, List.drop_succ_cons, List.drop_zero, List.drop_nil, List.take_succ_cons, List.take_zero, List.take_nil, List.cons_append, List.nil_append, List.append_nil, List.set_cons_succ, List.set_cons_zero, List.replicate_succ, List.replicate_zero, and_self, and_true, true_and, Nat.le_refl, Nat.one_ne_zero, not_false_eq_true, not_true_eq_false, true_or, or_true, false_or, or_false, Bool.not_true, Bool.not_false, ty2, ty3, ty4, ty5, ty6, ty7, ty8, ty9, ty10, ty11, ty12, ty13, ty14, ty15, ty16, ty17, ty18, ty19, ty21, ty22, ty23, ty24, ty25, ty38, ty39, nmOk39, ty44, ty45, ty46, ty47, ty48, ty50, ty51, ty52, ty54, ty55, ty56, ty57, ty58, i64w]
    refine ⟨_, St.le.wk ?_, ks.length - (i + 1), by omega, i + 1, n1, .mk 0 r ax 0 0 ox (.mk k1 r1 a1 t1 y1 false us :: flds xs), true, K', t1', ?_, ?_, ?_, by omega, by simp only [Tr.kids]; omega, rfl, rfl⟩
    · simpa [St.le, Go.Ab.lk, foldSt, cel, enc, Tr.kind, hst, up] using hK'.lk
    · rw [hrs]; simp only [fstep, Tr.kind, hst, Tr.fk, hsx, Bool.true_and, Bool.and_true, Bool.false_eq_true, if_true, if_false, Tr.setOpen, Tr.rule]
    · simpa [Tr.kids, flds] using hK'
    · have h1 := tszs_take_one ks i _ hx; have h2 := tszs_len xs; simp only [tsz] at h1; simp only [Tr.kids, List.length_cons, flds_length]; omega
  · refine CallK.freezeC (t := t') (k := ⟨encs us, fz, 7⟩) (if_pos rfl) ⟨[(0, enc (.mk k r a tkn ty o ks)), (1, [.lit (.int .i8 0), .lit (.int .i64 0), .lit (.int .i64 0), .lit (.int .i64 0), .lit (.int .i64 0), .lit (.bool false), .vec [] true]), (2, [.lit (.int .i8 0), .lit (.int .i64 r), .lit (.int .i64 ax), .lit (.int .i64 0), .lit (.int .i64 0), .lit (.bool ox), .vec (encs [.mk k1 r1 a1 t1 y1 false us]) true])], [], N + 1⟩ rfl (fun g c => key g (by have c' := c; simp only [encs_length] at c'; exact c')) (fun g p hp => by cases hp) ?_
    refine CallK_of call15 (carry_frame xs [.mk k1 r1 a1 t1 y1 false us] 2 _ _ _ _ _ _ (.vec (encs [.mk k1 r1 a1 t1 y1 false us]) true) [] (N + 1) _ rfl (by omega) hxs (.inl ⟨rfl, rfl⟩) (ihk _ hm)) ?_
    rintro r' ⟨b1, t1', n1⟩ ⟨c, ⟨rfl, ⟨K', rfl, hK'⟩, hn1⟩, hb1⟩
    simp only at hb1 hK' hn1
    subst hb1
    simp (disch := omega) only [awp_skip, awp_region, awp_draw, awp_seq, awp_cond, awp_block, awp_exit, awp_label, awp_goto, awp_ret, awp_loop, awp_scope, seqK_normal, seqK_ret, seqK_exit, seqK_goto, blockK_normal, blockK_ret, blockK_goto, blockK_exit, jumpK_normal, jumpK_ret, jumpK_exit, stayK_normal, stayK_ret, stayK_exit, retK_normal, retK_ret, awl, gwl_nil, gwl_plain, gwl_guard, guardK_true, guardK_false, SplitO_true, SplitO_false, SplitC_true, SplitC_false, SplitP_true, SplitP_false, condK_some, PickK_some, pickV_some, resK_some, ne_eq, srcRows, awo, aggEq, eqF, litEq, andO, qwl, qwo, qOp, callQ_some, walkT_leaf, walkT_last, walkT_alt, oneK, retW_normal, retW_ret, cutK_normal, cutK_ret, jumpK_goto, stepOp, stepK_val, stepK_none, callK_some, pairO, pureOp, heapOp, entry, slotsOf, ev, evL, evP, evO, lk, up, St.put, St.drop, constAV, cellAV, cellsAV, plain, binV, intBin, strBin, guardBit, boolOf, fnOf, intOfAV, bound, resOf, retV, moved, rowOf, valAt, Kd.agg, AV.cells, splice, places, fillAV, rowsFill, Hp.none, Option.bind_some, Option.bind_none, Option.map_some, Option.map_none, ↓reduceIte, reduceCtorEq, Nat.reduceLT, Nat.reduceEqDiff, Nat.reduceAdd, Nat.reduceLeDiff, Nat.reducePow, Nat.reduceMul, Nat.zero_add, Nat.add_zero, List.getElem?_toArray, List.getElem?_cons_succ, List.getElem?_cons_zero, List.length_cons, List.length_nil, List.drop_succ_cons, List.drop_zero, List.drop_nil, List.take_succ_cons, List.take_zero, List.take_nil, List.cons_append, List.nil_append, List.append_nil, List.set_cons_succ, List.set_cons_zero, List.replicate_succ, List.replicate_zero, and_self, and_true, true_and, Nat.le_refl, Nat.one_ne_zero, not_false_eq_true, not_true_eq_false, true_or, or_true, false_or, or_false, Bool.not_true, Bool.not_false, ty2, ty3, ty4, ty5, ty6, ty7, ty8, ty9, ty10, ty11, ty12, ty13, ty14, ty15, ty16, ty17, ty18, ty19, ty21, ty22, ty23, ty24, ty25, ty38, ty39, nmOk39, ty44, ty45, ty46, ty47, ty48, ty50, ty51, ty52, ty54, ty55, ty56, ty57, ty58, i64w]
    refine ⟨_, St.le.wk ?_, ks.length - (i + 1), by omega, i + 1, n1, .mk 0 r ax 0 0 ox (.mk k1 r1 a1 t1 y1 false us :: flds xs), true, K', t1', ?_, ?_, ?_, by omega, by simp only [Tr.kids]; omega, rfl, rfl⟩
    · simpa [St.le, Go.Ab.lk, foldSt, cel, enc, Tr.kind, hst, up] using hK'.lk
    · rw [hrs]; simp only [fstep, Tr.kind, hst, Tr.fk, hsx, Bool.true_and, Bool.and_true, Bool.false_eq_true, if_true, if_false, Tr.setOpen, Tr.rule]
    · simpa [Tr.kids, flds] using hK'
    · have h1 := tszs_take_one ks i _ hx; have h2 := tszs_len xs; simp only [tsz] at h1; simp only [Tr.kids, List.length_cons, flds_length]; omega

end Go.Proofs.Ytlifonlohiihiaa
