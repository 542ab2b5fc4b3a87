/- fold.Tree: what it answers. Conditions: those that each theorem names. -/
import Derived.Test.YtlifonlohiihiaaF6b
import Derived.Test.YtlifonlohiihiaaF6c
import Derived.Test.YtlifonlohiihiaaF6d
namespace Go.Proofs.Ytlifonlohiihiaa
open Go.Ab
set_option linter.unusedSimpArgs false
set_option linter.unusedVariables false
set_option linter.unnecessarySimpa false

theorem pass_all (k r a tkn ty : Int) (o : Bool) (ks : List Tr) (hs : tsz (.mk k r a tkn ty o ks) ≤ 1000000000) (ih : ∀ q ∈ ks, PCall Try.prog 6 [.agg (enc q)] (.agg (enc (fld q))))
    (ihk : ∀ q ∈ ks, ∀ p ∈ q.kids, PCall Try.prog 6 [.agg (enc p)] (.agg (enc (fld p)))) (rest : Code) (hrest : rest6 = some rest) (n : Nat) (σ : St) (h : foldJ (.mk k r a tkn ty o ks) n σ) :
    awp Try.prog rest (jumpK 0 (fun σ => ∃ m, m < n ∧ foldJ (.mk k r a tkn ty o ks) m σ) (retK Try.prog [.cell 2 25] fun r' h' => Expo h' r' (.agg (enc (fld (.mk k r a tkn ty o ks)))))) σ := by
  obtain ⟨i, N, out, fo, K, tk, hrun, hK, hkl, hN, hi, rfl, rfl⟩ := h
  rcases out with ⟨k1, r1, a1, t1, y1, o1, us⟩
  simp only [Tr.kids] at hK hkl hi ⊢
  by_cases he : i = ks.length
  · exact pass_end k r a tkn ty o ks hs ih ihk rest hrest i N k1 r1 a1 t1 y1 o1 us fo K tk hrun hK hkl hN hi he
  · have hlt : i < ks.length := by omega
    obtain ⟨x, hx⟩ : ∃ x, ks[i]? = some x := ⟨ks[i], List.getElem?_eq_getElem hlt⟩
    rcases x with ⟨kx, rx, ax, tx, yx, ox, xs⟩
    cases hst : (k == 0)
    · exact pass_plain k r a tkn ty o ks hs ih ihk rest hrest i N k1 r1 a1 t1 y1 o1 us fo K tk hrun hK hkl hN hi hlt kx rx ax tx yx ox xs hx hst
    · cases hsx : (kx == 1)
      · exact pass_other k r a tkn ty o ks hs ih ihk rest hrest i N k1 r1 a1 t1 y1 o1 us fo K tk hrun hK hkl hN hi hlt kx rx ax tx yx ox xs hx hst hsx
      · cases fo
        · exact pass_first k r a tkn ty o ks hs ih ihk rest hrest i N k1 r1 a1 t1 y1 o1 us K tk hrun hK hkl hN hi hlt kx rx ax tx yx ox xs hx hst hsx
        · exact pass_more k r a tkn ty o ks hs ih ihk rest hrest i N k1 r1 a1 t1 y1 o1 us K tk true rfl hrun hK hkl hN hi hlt kx rx ax tx yx ox xs hx hst hsx

theorem tree_step (k r a tkn ty : Int) (o : Bool) (ks : List Tr) (hs : tsz (.mk k r a tkn ty o ks) ≤ 1000000000) (ih : ∀ q ∈ ks, PCall Try.prog 6 [.agg (enc q)] (.agg (enc (fld q))))
    (ihk : ∀ q ∈ ks, ∀ p ∈ q.kids, PCall Try.prog 6 [.agg (enc p)] (.agg (enc (fld p)))) : PCall Try.prog 6 [.agg (enc (.mk k r a tkn ty o ks))] (.agg (enc (fld (.mk k r a tkn ty o ks)))) := by
  have hpass := pass_all k r a tkn ty o ks hs ih ihk
  refine PCall_intro Try.func6 rfl Try.ntmps6 (rs := [.cell 2 25]) rfl (by simp) ?_
  simp only [awp_skip, awp_region, awp_draw, awp_seq, awp_cond, awp_block, awp_exit, awp_label, awp_goto, awp_ret, awp_loop, awp_scope, seqK_normal, seqK_ret, seqK_exit, seqK_goto, blockK_normal, blockK_ret, blockK_goto, blockK_exit, jumpK_normal, jumpK_ret, jumpK_exit, stayK_normal, stayK_ret, stayK_exit, retK_normal, retK_ret, awl, gwl_nil, gwl_plain, gwl_guard, guardK_true, guardK_false, SplitO_true, SplitO_false, SplitC_true, SplitC_false, SplitP_true, SplitP_false, condK_some, PickK_some, pickV_some, resK_some, ne_eq, srcRows, awo, aggEq, eqF, litEq, andO, qwl, qwo, qOp, callQ_some, walkT_leaf, walkT_last, walkT_alt, oneK, retW_normal, retW_ret, cutK_normal, cutK_ret, jumpK_goto, stepOp, stepK_val, stepK_none, callK_some, pairO, pureOp, heapOp, entry, slotsOf, ev, evL, evP, evO, lk, up, St.put, St.drop, constAV, cellAV, cellsAV, plain, binV, intBin, strBin, guardBit, boolOf, fnOf, intOfAV, bound, resOf, retV, moved, rowOf, valAt, Kd.agg, AV.cells, splice, places, fillAV, rowsFill, Hp.none, Option.bind_some, Option.bind_none, Option.map_some, Option.map_none, ↓reduceIte, reduceCtorEq, Nat.reduceLT, Nat.reduceEqDiff, Nat.reduceAdd, Nat.reduceLeDiff, Nat.reducePow, Nat.reduceMul, Nat.zero_add, Nat.add_zero, List.getElem?_toArray, List.getElem?_cons_succ, List.getElem?_cons_zero, List.length_cons, List.length_nil, List.drop_succ_cons, List.drop_zero, List.drop_nil, List.take_succ_cons, List.take_zero, List.take_nil, List.cons_append, List.nil_append, List.append_nil, List.set_cons_succ, List.set_cons_zero, List.replicate_succ, List.replicate_zero, and_self, and_true, true_and, Nat.le_refl, Nat.one_ne_zero, not_false_eq_true, not_true_eq_false, true_or, or_true, false_or, or_false, Bool.not_true, Bool.not_false, ty2, ty3, ty4, ty5, ty6, ty7, ty8, ty9, ty10, ty11, ty12, ty13, ty14, ty15, ty16, ty17, ty18, ty19, ty21, ty22, ty23, ty24, ty25, ty38, ty39, nmOk39, ty44, ty45, ty46, ty47, ty48, ty50, ty51, ty52, ty54, ty55, ty56, ty57, ty58, enc]
  refine aw_scope_cut (pre := _) (rest := _) 0 (by exact rfl) (by exact rfl) (foldJ (.mk k r a tkn ty o ks)) ks.length ?_ (fun n σ h => hpass _ rfl n σ h)
  cases h1 : (k == 1)
  all_goals
    simp only [awp_skip, awp_region, awp_draw, awp_seq, awp_cond, awp_block, awp_exit, awp_label, awp_goto, awp_ret, awp_loop, awp_scope, seqK_normal, seqK_ret, seqK_exit, seqK_goto, blockK_normal, blockK_ret, blockK_goto, blockK_exit, jumpK_normal, jumpK_ret, jumpK_exit, stayK_normal, stayK_ret, stayK_exit, retK_normal, retK_ret, awl, gwl_nil, gwl_plain, gwl_guard, guardK_true, guardK_false, SplitO_true, SplitO_false, SplitC_true, SplitC_false, SplitP_true, SplitP_false, condK_some, PickK_some, pickV_some, resK_some, ne_eq, srcRows, awo, aggEq, eqF, litEq, andO, qwl, qwo, qOp, callQ_some, walkT_leaf, walkT_last, walkT_alt, oneK, retW_normal, retW_ret, cutK_normal, cutK_ret, jumpK_goto, stepOp, stepK_val, stepK_none, callK_some, pairO, pureOp, heapOp, entry, slotsOf, ev, evL, evP, evO, lk, up, St.put, St.drop, constAV, cellAV, cellsAV, plain, binV, intBin, strBin, guardBit, boolOf, fnOf, intOfAV, bound, resOf, retV, moved, rowOf, valAt, Kd.agg, AV.cells, splice, places, fillAV, rowsFill, Hp.none, Option.bind_some, Option.bind_none, Option.map_some, Option.map_none, ↓reduceIte, reduceCtorEq, Nat.reduceLT, Nat.reduceEqDiff, Nat.reduceAdd, Nat.reduceLeDiff, Nat.reducePow, Nat.reduceMul, Nat.zero_add, Nat.add_zero, List.getElem?_toArray, List.getElem?_cons_succ, List.getElem?_cons_zero, List.length_cons, List.length_nil, List.drop_succ_cons, List.drop_zero, List.drop_nil, List.take_succ_cons, List.take_zero, List.take_nil, List.cons_append, List.nil_append, List.append_nil, List.set_cons_succ, List.set_cons_zero, List.replicate_succ, List.replicate_zero, and_self, and_true, true_and, Nat.le_refl, Nat.one_ne_zero, not_false_eq_true, not_true_eq_false, true_or, or_true, false_or, or_false, Bool.not_true, Bool.not_false, ty2, ty3, ty4, ty5, ty6, ty7, ty8, ty9, ty10, ty11, ty12, ty13, ty14, ty15, ty16, ty17, ty18, ty19, ty21, ty22, ty23, ty24, ty25, ty38, ty39, nmOk39, ty44, ty45, ty46, ty47, ty48, ty50, ty51, ty52, ty54, ty55, ty56, ty57, ty58, h1]
    refine ⟨_, ?_, 0, 3, _, _, .vec [] true, [], rfl, .inl ⟨rfl, rfl⟩, ?_, by omega, by simp, by simp [Tr.kids], rfl⟩
    · exact St.le.wk (by simp [St.le, Go.Ab.lk, foldSt, frun, fst0, cel, h1, fks, Tr.kids, Tr.kind, enc])
    · simp [frun, fst0, fks, Tr.kids, tszs]

theorem tree_all (n : Nat) : ∀ t : Tr, tsz t ≤ n → tsz t ≤ 1000000000 → PCall Try.prog 6 [.agg (enc t)] (.agg (enc (fld t))) := by
  induction n with
  | zero => intro t h _; have := tsz_pos t; omega
  | succ n IH =>
    intro t h hs
    rcases t with ⟨k, r, a, tkn, ty, o, ks⟩
    have hk : ∀ q ∈ ks, tsz q ≤ n := fun q hq => by have := tsz_mem hq; simp only [tsz] at h; omega
    refine tree_step k r a tkn ty o ks hs (fun q hq => IH q (hk q hq) (by simp only [tsz] at hs; have := tsz_mem hq; omega)) fun q hq p hp => IH p ?_ ?_
    · have h1 := hk q hq; have h2 := tsz_mem hp
      cases q; simp only [Tr.kids] at h2; simp only [tsz] at h1; omega
    · have h1 := hk q hq; have h2 := tsz_mem hp
      have h3 := tsz_mem hq
      cases q; simp only [Tr.kids] at h2; simp only [tsz] at h1 h3 hs; omega
theorem tree_spec (t : Tr) (hs : tsz t ≤ 1000000000) : PCall Try.prog 6 [.agg (enc t)] (.agg (enc (fld t))) := tree_all _ t (Nat.le_refl _) hs
end Go.Proofs.Ytlifonlohiihiaa
