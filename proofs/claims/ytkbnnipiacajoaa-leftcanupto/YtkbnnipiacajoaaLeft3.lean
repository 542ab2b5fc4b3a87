/- Contracts: elements copied: the program's answer. Conditions: those that each theorem names. -/
import Derived.Test.YtkbnnipiacajoaaLeft2
namespace Go.Proofs.Ytkbnnipiacajoaa
open Go.Ab
set_option linter.unusedSimpArgs false
set_option linter.unusedVariables false
set_option maxRecDepth 20000

theorem tyFn : tyOf Try.prog 53 = some { kd := .oth, size := 1, bytes := 8, zero := some [.lit .nilFunc] } := by kernel_rfl

def wkH : Hp := ⟨[(0, [.fn (.func 51) [] [.ptr 0 0]])], [], 1⟩
theorem wkH_own : Own wkH := ⟨allc ⟨by show 0 < 1; decide, .cons (.fn .nil (.cons (.ptr (by show 0 < 1; decide) rfl) .nil)) .nil⟩ alln, alln⟩
theorem cvL_encK {g g' : Gh} {ka kb : AV} (x : Ext g g') (e : El) (c : Cv g g' ka kb) : CvL g g' (encK ka e) (encK kb e) := by
  rcases e with ⟨op, name, set, lz, ⟨gop, gn, gname, gkids⟩, kids, level, place⟩
  simp only [encK]
  exact cvL_cons (cv_refl x _) (cvL_cons (cv_refl x _) (cvL_cons (cv_refl x _) (cvL_cons (cv_refl x _) (cvL_cons (cv_refl x _) (cvL_cons (cv_refl x _) (cvL_cons (cv_refl x _) (cvL_cons (cv_refl x _) (cvL_cons c (cvL_refl x _)))))))))
/-- What the inner function leaves. -/
def ownW (e : El) (r : AV) (h' : Hp) : Prop := ∃ T, r = .agg (encK (grA T (ckr e)) (cpE e)) ∧ h'.toks = grT T 11 (ckr e) ∧ h'.nx = grN T (ckr e) ∧ lk h'.boxes 0 = some [.fn (.func 51) [] [.ptr 0 0]] ∧ 1 ≤ T
def ownWQ (e : El) (r : AV) (h' : Hp) : Prop := r = .agg (encK (grA 1 (ckr e)) (cpE e)) ∧ h' = ⟨[(0, [.fn (.func 51) [] [.ptr 0 0]])], grT 1 11 (ckr e), grN 1 (ckr e)⟩
theorem ownW_told {f : Nat} {e : El} {av : List AV} (h : SCall Try.prog f av wkH (ownW e)) : SCall Try.prog f av wkH (ownWQ e) := by
  refine h.told ?_
  rintro r h' ⟨T, rfl, h1, h2, h3, h4⟩
  refine ⟨_, _, ?_, rfl, rfl⟩
  have hp := pure_ckr e
  cases hc : ckr e with
  | nil =>
    rw [hc] at h1 h2
    have h2 : h'.nx = T := h2
    exact St.cp_of 1 [] (by rw [show (⟨[(0, AV.agg (encK (grA T []) (cpE e)))], h', 1⟩ : St).hp.nx = h'.nx from rfl, h2]; exact h4) rfl rfl List.nodup_nil (by simp) (allc ⟨_, rfl, .agg (rnL_encK _ (.pure (.vec (by simp))))⟩ alln) (allc ⟨by show 0 < 1; decide, _, h3, .cons (.fn .nil (.cons (.ptr (by show 0 < 1; decide) rfl) .nil)) .nil⟩ alln) alln
  | cons x l =>
    rw [hc] at h1 h2 hp
    have h2 : h'.nx = T + 1 := h2
    exact St.cp_of 1 [T] (by rw [show (⟨[(0, AV.agg (encK (grA T (x :: l)) (cpE e)))], h', 1⟩ : St).hp.nx = h'.nx from rfl, h2]; omega) rfl rfl (by simp) (by simp [h2, h4]) (allc ⟨_, rfl, .agg (rnL_encK _ (.own (by show 1 < 2; decide) rfl))⟩ alln) (allc ⟨by show 0 < 2; decide, _, h3, .cons (.fn .nil (.cons (.ptr (by show 0 < 2; decide) rfl) .nil)) .nil⟩ alln)
      (allc ⟨by show 1 < 2; decide, _, by rw [show cpn 1 [T] 1 = T from rfl, h1]; simp [grT, lk], rfl, rfl, .pure hp⟩ alln)
theorem ownW_frozen {f : Nat} {e : El} {av : List AV} (h : SCall Try.prog f av wkH (ownW e)) : QCall Try.prog f av wkH (.agg (encE (cpE e))) := by
  refine (ownW_told h).told ?_
  rintro r h' ⟨rfl, rfl⟩
  refine ⟨_, _, ?_, rfl, rfl⟩
  rw [← encK_vec (cpE e)]
  show St.cp 1 _ _
  have ck : (cpE e).kids.map encE = ckr e := rfl
  rw [ck]
  have hp := pure_ckr e
  cases hc : ckr e with
  | nil =>
    refine St.cp.trans (σ' := ⟨[(0, .agg (encK (.vec [] false) (cpE e)))], wkH, 1⟩) (St.wk.cp (St.wk_conv rfl rfl (fun g1 g2 x => allc ⟨_, rfl, cv_agg (cvL_encK x _ (cv_full x _ _))⟩ alln) (fun g1 g2 x => allc ⟨_, rfl, cvL_refl x _⟩ alln) (fun g1 => alln))) (St.wk.cp (St.wk.refl _))
  | cons x l =>
    rw [hc] at hp
    refine St.cp.trans (σ' := ⟨[(0, .agg (encK (.vec (x :: l) false) (cpE e)))], ⟨[(0, [.fn (.func 51) [] [.ptr 0 0]])], [], 2⟩, 1⟩)
      (St.wk.cp (St.wk_freeze (t := 1) (k := ⟨x :: l, 0, 11⟩) rfl rfl rfl (fun g1 g2 x c => allc ⟨_, rfl, cv_agg (cvL_encK x _ c)⟩ alln) (fun g1 g2 x c => allc ⟨_, rfl, cvL_refl x _⟩ alln) (fun g1 => alln))) ?_
    exact cp_back wkH_own (by show 1 ≤ 2; decide) rfl (allc rfl alln) (allc (.pure (.agg (pure_encK _ (.vec hp)))) alln) (allc rfl alln) alln

theorem wk_sub {x r : AV} {f : Nat} (hx : Ab.Pure x) (hr : Ab.Pure r) {H : Hp} {t : Nat} (h0 : lk H.boxes t = some [.fn (.func 51) [] [.ptr t 0]]) (h1 : lk H.toks t = none) (hn : t + 1 ≤ H.nx) (hc : QCall Try.prog f [x, .ptr 0 0] wkH r) : QCall Try.prog f [x, .ptr t 0] H r := by
  refine QCall.sub (hs := wkH) (r0 := r) (av := [x, .ptr 0 0]) [t] rfl (by simp) (by simp; omega) (.cons (.pure hx) (.cons (.ptr (by show 0 < 1; decide) rfl) .nil)) (allc ⟨by show 0 < 1; decide, _, h0, .cons (.fn .nil (.cons (.ptr (by show 0 < 1; decide) rfl) .nil)) .nil⟩ alln) alln ?_ hc (.pure hr)
  intro i hi _
  have hi : i < 1 := hi
  match i, hi with
  | 0, _ => exact h1

theorem copied1_spec (e : El) (he : esz e ≤ 1000000000) : SCall Try.prog 51 [.agg (encE e), .ptr 0 0] wkH (ownW e) := by
  match e with
  | .mk op name set lz (.mk gop gn gname gkids) kids level place =>
    have hsz : eszs kids ≤ 1000000000 := by simp only [esz] at he; omega
    have hset : set.length ≤ 1000000000 := by simp only [esz] at he; omega
    have hgs : gsz (.mk gop gn gname gkids) ≤ 1000000000 := by simp only [esz] at he; omega
    have hlen : kids.length ≤ 1000000000 := by have := eszs_len kids; omega
    have ih : ∀ k ∈ kids, QCall Try.prog 51 [.agg (encE k), .ptr 0 0] wkH (.agg (encE (cpE k))) := fun k hk => ownW_frozen (copied1_spec k (by have := eszs_mem hk; omega))
    refine SCall_introC Try.func51 rfl Try.ntmps51 (rs := [.cell 3 49]) rfl (by simp) (N := 1) rfl ?_
    have pg := pureG (.mk gop gn gname gkids)
    have sg := spec53 (.mk gop gn gname gkids) hgs
    simp only [encG, encGs_map] at sg pg
    simp only [Xaa, Xab, Xac, Xad, Xae, Xaf, Xag, Xah, Xai, Xaj, Xak, Xal, Xam, Xan, Xao, Xap, Xaq, Xar, Xas, Xat, Xau, Xav, Xaw, Xax, Xay, Xaz, Xba, Xbb, awl, Xbc, Xbd, Xbe, Xbf, Xbg, Xbh, Xbi, Xbj, Xbk, Xbl, Xbm, Xbn, Xbo, Xbp, Xbq, ne_eq, srcRows, awo, aggEq, eqF, litEq, andO, qwl, qwo, qOp, Xbr, Xbs, Xbt, lop, Yaa, Yab, Xbu, Xbv, Xbw, oneK, Xbx, Xby, Xbz, Xca, Xcb, Xcc, Xcd, Xce, Xcf, Xcg, Xch, stepOp, Xci, Xcj, Xck, pairO, pureOp, heapOp, entry, slotsOf, ev, evL, evP, evO, lk, up, St.put, St.drop, constAV, cellAV, cellsAV, plain, binV, intBin, strBin, guardBit, boolOf, fnOf, intOfAV, bound, resOf, retV, moved, rowOf, valAt, Kd.agg, AV.cells, splice, places, fillAV, rowsFill, Hp.none, Yac, Yad, Yae, Yaf, ↓reduceIte, reduceCtorEq, Nat.reduceLT, Nat.reduceEqDiff, Nat.reduceAdd, Nat.reduceLeDiff, Nat.reducePow, Nat.reduceMul, Yay, Yaz, Yag, Yah, Yai, Yaj, Yak, Yal, Yam, Yan, Yao, Yap, Yaq, Yar, Yas, Yat, Yau, Yav, Yaw, Yax, Ybc, Ybd, Yba, Ybb, Yzz, tyW, encE, encEs_map, encGs_map, wkH]
    refine CallK_pure call52 (clone_spec set hset) (by simp; exact .vec (pure_rows pure_encR _)) (.vec (pure_rows pure_encR _)) ?_
    simp only [Xaa, Xab, Xac, Xad, Xae, Xaf, Xag, Xah, Xai, Xaj, Xak, Xal, Xam, Xan, Xao, Xap, Xaq, Xar, Xas, Xat, Xau, Xav, Xaw, Xax, Xay, Xaz, Xba, Xbb, awl, Xbc, Xbd, Xbe, Xbf, Xbg, Xbh, Xbi, Xbj, Xbk, Xbl, Xbm, Xbn, Xbo, Xbp, Xbq, ne_eq, srcRows, awo, aggEq, eqF, litEq, andO, qwl, qwo, qOp, Xbr, Xbs, Xbt, lop, Yaa, Yab, Xbu, Xbv, Xbw, oneK, Xbx, Xby, Xbz, Xca, Xcb, Xcc, Xcd, Xce, Xcf, Xcg, Xch, stepOp, Xci, Xcj, Xck, pairO, pureOp, heapOp, entry, slotsOf, ev, evL, evP, evO, lk, up, St.put, St.drop, constAV, cellAV, cellsAV, plain, binV, intBin, strBin, guardBit, boolOf, fnOf, intOfAV, bound, resOf, retV, moved, rowOf, valAt, Kd.agg, AV.cells, splice, places, fillAV, rowsFill, Hp.none, Yac, Yad, Yae, Yaf, ↓reduceIte, reduceCtorEq, Nat.reduceLT, Nat.reduceEqDiff, Nat.reduceAdd, Nat.reduceLeDiff, Nat.reducePow, Nat.reduceMul, Yay, Yaz, Yag, Yah, Yai, Yaj, Yak, Yal, Yam, Yan, Yao, Yap, Yaq, Yar, Yas, Yat, Yau, Yav, Yaw, Yax, Ybc, Ybd, Yba, Ybb, Yzz, tyW]
    refine CallK_pure call53 sg (by simpa using pg) pg ?_
    simp only [Xaa, Xab, Xac, Xad, Xae, Xaf, Xag, Xah, Xai, Xaj, Xak, Xal, Xam, Xan, Xao, Xap, Xaq, Xar, Xas, Xat, Xau, Xav, Xaw, Xax, Xay, Xaz, Xba, Xbb, awl, Xbc, Xbd, Xbe, Xbf, Xbg, Xbh, Xbi, Xbj, Xbk, Xbl, Xbm, Xbn, Xbo, Xbp, Xbq, ne_eq, srcRows, awo, aggEq, eqF, litEq, andO, qwl, qwo, qOp, Xbr, Xbs, Xbt, lop, Yaa, Yab, Xbu, Xbv, Xbw, oneK, Xbx, Xby, Xbz, Xca, Xcb, Xcc, Xcd, Xce, Xcf, Xcg, Xch, stepOp, Xci, Xcj, Xck, pairO, pureOp, heapOp, entry, slotsOf, ev, evL, evP, evO, lk, up, St.put, St.drop, constAV, cellAV, cellsAV, plain, binV, intBin, strBin, guardBit, boolOf, fnOf, intOfAV, bound, resOf, retV, moved, rowOf, valAt, Kd.agg, AV.cells, splice, places, fillAV, rowsFill, Hp.none, Yac, Yad, Yae, Yaf, ↓reduceIte, reduceCtorEq, Nat.reduceLT, Nat.reduceEqDiff, Nat.reduceAdd, Nat.reduceLeDiff, Nat.reducePow, Nat.reduceMul, Yay, Yaz, Yag, Yah, Yai, Yaj, Yak, Yal, Yam, Yan, Yao, Yap, Yaq, Yar, Yas, Yat, Yau, Yav, Yaw, Yax, Ybc, Ybd, Yba, Ybb, Yzz, tyW, List.length_map]
    refine aw_forE kids.length 3 (fun i (xs : List (List AV)) => ⟨[(1, .ptr 0 0), (2, .ptr 1 0), (3, .ptr 2 0), (19, .vec (kids.map encE) false), (20, .lit (.int .i64 kids.length)), (21, .lit (.int .i64 i))], ⟨[(0, [.fn (.func 51) [] [.ptr 0 0]]), (1, encK (grA 3 xs) (.mk op name set lz (.mk gop gn gname gkids) kids 0 place)), (2, zeE)], grT 3 11 xs, grN 3 xs⟩, 35⟩)
      (fun i xs => xs = ((kids.map cpE).take i).map encE) (by show 3 ≤ 3; decide) [] (St.wk.cp (St.wk_slots (by simp [lk]))) rfl ?_ ?_
    · rintro i xs hi hxs
      have hk := List.getElem?_eq_getElem hi
      generalize kids[i] = k at hk
      have hm : k ∈ kids := List.mem_of_getElem? hk
      have g1 := map_getD encE hk
      have hin : (0 : Int) ≤ (i : Int) := Int.natCast_nonneg i
      have hi1 : (i : Int) < (kids.length : Int) := by omega
      have hkl := encE_length k
      have hcl := encE_length (cpE k)
      have hxl : xs.length = i := by rw [hxs]; simp; omega
      have hnext : xs ++ [encE (cpE k)] = ((kids.map cpE).take (i + 1)).map encE := by rw [hxs, List.take_add_one, List.getElem?_map, hk]; simp
      simp only [Xaa, Xab, Xac, Xad, Xae, Xaf, Xag, Xah, Xai, Xaj, Xak, Xal, Xam, Xan, Xao, Xap, Xaq, Xar, Xas, Xat, Xau, Xav, Xaw, Xax, Xay, Xaz, Xba, Xbb, awl, Xbc, Xbd, Xbe, Xbf, Xbg, Xbh, Xbi, Xbj, Xbk, Xbl, Xbm, Xbn, Xbo, Xbp, Xbq, ne_eq, srcRows, awo, aggEq, eqF, litEq, andO, qwl, qwo, qOp, Xbr, Xbs, Xbt, lop, Yaa, Yab, Xbu, Xbv, Xbw, oneK, Xbx, Xby, Xbz, Xca, Xcb, Xcc, Xcd, Xce, Xcf, Xcg, Xch, stepOp, Xci, Xcj, Xck, pairO, pureOp, heapOp, entry, slotsOf, ev, evL, evP, evO, lk, up, St.put, St.drop, constAV, cellAV, cellsAV, plain, binV, intBin, strBin, guardBit, boolOf, fnOf, intOfAV, bound, resOf, retV, moved, rowOf, valAt, Kd.agg, AV.cells, splice, places, fillAV, rowsFill, Hp.none, Yac, Yad, Yae, Yaf, ↓reduceIte, reduceCtorEq, Nat.reduceLT, Nat.reduceEqDiff, Nat.reduceAdd, Nat.reduceLeDiff, Nat.reducePow, Nat.reduceMul, Yay, Yaz, Yag, Yah, Yai, Yaj, Yak, Yal, Yam, Yan, Yao, Yap, Yaq, Yar, Yas, Yat, Yau, Yav, Yaw, Yax, Ybc, Ybd, Yba, Ybb, Yzz, tyW, encK, List.length_map]
      refine .intro (fun hb => ?_) (fun hb => ?_)
      case' refine_2 => exfalso; exact of_decide_eq_false hb hi1
      clear hb
      rw [Xaa, Xam, Xad]
      simp only [Xaa, Xab, Xac, Xad, Xae, Xaf, Xag, Xah, Xai, Xaj, Xak, Xal, Xam, Xan, Xao, Xap, Xaq, Xar, Xas, Xat, Xau, Xav, Xaw, Xax, Xay, Xaz, Xba, Xbb, awl, Xbc, Xbd, Xbe, Xbf, Xbg, Xbh, Xbi, Xbj, Xbk, Xbl, Xbm, Xbn, Xbo, Xbp, Xbq, ne_eq, srcRows, awo, aggEq, eqF, litEq, andO, qwl, qwo, qOp, Xbr, Xbs, Xbt, lop, Yaa, Yab, Xbu, Xbv, Xbw, oneK, Xbx, Xby, Xbz, Xca, Xcb, Xcc, Xcd, Xce, Xcf, Xcg, Xch, stepOp, Xci, Xcj, Xck, pairO, pureOp, heapOp, entry, slotsOf, ev, evL, evP, evO, lk, up, St.put, St.drop, constAV, cellAV, cellsAV, plain, binV, intBin, strBin, guardBit, boolOf, fnOf, intOfAV, bound, resOf, retV, moved, rowOf, valAt, Kd.agg, AV.cells, splice, places, fillAV, rowsFill, Hp.none, Yac, Yad, Yae, Yaf, ↓reduceIte, reduceCtorEq, Nat.reduceLT, Nat.reduceEqDiff, Nat.reduceAdd, Nat.reduceLeDiff, Nat.reducePow, Nat.reduceMul, Yay, Yaz, Yag, Yah, Yai, Yaj, Yak, Yal, Yam, Yan, Yao, Yap, Yaq, Yar, Yas, Yat, Yau, Yav, Yaw, Yax, Ybc, Ybd, Yba, Ybb, Yzz, tyW, List.length_map, hin, hi1, Int.toNat_natCast, g1, hkl, encE_take]
      cases xs with
      | nil =>
        have hfit : fits 1 152 := fits_of' (by decide) (by decide)
        simp only [Xaa, Xab, Xac, Xad, Xae, Xaf, Xag, Xah, Xai, Xaj, Xak, Xal, Xam, Xan, Xao, Xap, Xaq, Xar, Xas, Xat, Xau, Xav, Xaw, Xax, Xay, Xaz, Xba, Xbb, awl, Xbc, Xbd, Xbe, Xbf, Xbg, Xbh, Xbi, Xbj, Xbk, Xbl, Xbm, Xbn, Xbo, Xbp, Xbq, ne_eq, srcRows, awo, aggEq, eqF, litEq, andO, qwl, qwo, qOp, Xbr, Xbs, Xbt, lop, Yaa, Yab, Xbu, Xbv, Xbw, oneK, Xbx, Xby, Xbz, Xca, Xcb, Xcc, Xcd, Xce, Xcf, Xcg, Xch, stepOp, Xci, Xcj, Xck, pairO, pureOp, heapOp, entry, slotsOf, ev, evL, evP, evO, lk, up, St.put, St.drop, constAV, cellAV, cellsAV, plain, binV, intBin, strBin, guardBit, boolOf, fnOf, intOfAV, bound, resOf, retV, moved, rowOf, valAt, Kd.agg, AV.cells, splice, places, fillAV, rowsFill, Hp.none, Yac, Yad, Yae, Yaf, ↓reduceIte, reduceCtorEq, Nat.reduceLT, Nat.reduceEqDiff, Nat.reduceAdd, Nat.reduceLeDiff, Nat.reducePow, Nat.reduceMul, Yay, Yaz, Yag, Yah, Yai, Yaj, Yak, Yal, Yam, Yan, Yao, Yap, Yaq, Yar, Yas, Yat, Yau, Yav, Yaw, Yax, Ybc, Ybd, Yba, Ybb, Yzz, tyW, grA, grT, grN, zeE]
        refine aw_drawC (n := 35) (σ' := ⟨[(1, .ptr 0 0), (2, .ptr 1 0), (3, .ptr 2 0), (19, .vec (kids.map encE) false), (20, .lit (.int .i64 kids.length)), (21, .lit (.int .i64 i))],
          ⟨[(0, [.fn (.func 51) [] [.ptr 0 0]]), (1, encK (.own 4 1) (.mk op name set lz (.mk gop gn gname gkids) kids 0 place)), (2, zeE)], [(4, ⟨[encE (cpE k)], 0, 11⟩)], 5⟩, 35⟩) 4 6 (.alt 6 (.alt 7 (.alt 8 .leaf .nil) .nil) .nil) rfl (by decide) (by decide) mixed (by kernel_rfl) (by decide) ?_ ?_
        · simp only [Xaa, Xab, Xac, Xad, Xae, Xaf, Xag, Xah, Xai, Xaj, Xak, Xal, Xam, Xan, Xao, Xap, Xaq, Xar, Xas, Xat, Xau, Xav, Xaw, Xax, Xay, Xaz, Xba, Xbb, awl, Xbc, Xbd, Xbe, Xbf, Xbg, Xbh, Xbi, Xbj, Xbk, Xbl, Xbm, Xbn, Xbo, Xbp, Xbq, ne_eq, srcRows, awo, aggEq, eqF, litEq, andO, qwl, qwo, qOp, Xbr, Xbs, Xbt, lop, Yaa, Yab, Xbu, Xbv, Xbw, oneK, Xbx, Xby, Xbz, Xca, Xcb, Xcc, Xcd, Xce, Xcf, Xcg, Xch, stepOp, Xci, Xcj, Xck, pairO, pureOp, heapOp, entry, slotsOf, ev, evL, evP, evO, lk, up, St.put, St.drop, constAV, cellAV, cellsAV, plain, binV, intBin, strBin, guardBit, boolOf, fnOf, intOfAV, bound, resOf, retV, moved, rowOf, valAt, Kd.agg, AV.cells, splice, places, fillAV, rowsFill, Hp.none, Yac, Yad, Yae, Yaf, ↓reduceIte, reduceCtorEq, Nat.reduceLT, Nat.reduceEqDiff, Nat.reduceAdd, Nat.reduceLeDiff, Nat.reducePow, Nat.reduceMul, Yay, Yaz, Yag, Yah, Yai, Yaj, Yak, Yal, Yam, Yan, Yao, Yap, Yaq, Yar, Yas, Yat, Yau, Yav, Yaw, Yax, Ybc, Ybd, Yba, Ybb, Yzz, tyW, hkl, encE_take, tyFn]
          refine CallQ_intro (v := .agg (encE (cpE k))) call51 ?_ ?_
          · exact wk_sub (pureE k) (pureE (cpE k)) rfl rfl (by show 1 ≤ 4; decide) (ih k hm)
          simp only [Xaa, Xab, Xac, Xad, Xae, Xaf, Xag, Xah, Xai, Xaj, Xak, Xal, Xam, Xan, Xao, Xap, Xaq, Xar, Xas, Xat, Xau, Xav, Xaw, Xax, Xay, Xaz, Xba, Xbb, awl, Xbc, Xbd, Xbe, Xbf, Xbg, Xbh, Xbi, Xbj, Xbk, Xbl, Xbm, Xbn, Xbo, Xbp, Xbq, ne_eq, srcRows, awo, aggEq, eqF, litEq, andO, qwl, qwo, qOp, Xbr, Xbs, Xbt, lop, Yaa, Yab, Xbu, Xbv, Xbw, oneK, Xbx, Xby, Xbz, Xca, Xcb, Xcc, Xcd, Xce, Xcf, Xcg, Xch, stepOp, Xci, Xcj, Xck, pairO, pureOp, heapOp, entry, slotsOf, ev, evL, evP, evO, lk, up, St.put, St.drop, constAV, cellAV, cellsAV, plain, binV, intBin, strBin, guardBit, boolOf, fnOf, intOfAV, bound, resOf, retV, moved, rowOf, valAt, Kd.agg, AV.cells, splice, places, fillAV, rowsFill, Hp.none, Yac, Yad, Yae, Yaf, ↓reduceIte, reduceCtorEq, Nat.reduceLT, Nat.reduceEqDiff, Nat.reduceAdd, Nat.reduceLeDiff, Nat.reducePow, Nat.reduceMul, Yay, Yaz, Yag, Yah, Yai, Yaj, Yak, Yal, Yam, Yan, Yao, Yap, Yaq, Yar, Yas, Yat, Yau, Yav, Yaw, Yax, Ybc, Ybd, Yba, Ybb, Yzz, tyW, hcl, encE_take, List.mem_singleton, forall_eq, List.not_mem_nil, false_imp_iff, implies_true, hfit]
          exact St.wk.cp (St.le.wk (by simp [St.le, lk, encK, zeE]))
        · simp (disch := omega) only [Xaa, Xab, Xac, Xad, Xae, Xaf, Xag, Xah, Xai, Xaj, Xak, Xal, Xam, Xan, Xao, Xap, Xaq, Xar, Xas, Xat, Xau, Xav, Xaw, Xax, Xay, Xaz, Xba, Xbb, awl, Xbc, Xbd, Xbe, Xbf, Xbg, Xbh, Xbi, Xbj, Xbk, Xbl, Xbm, Xbn, Xbo, Xbp, Xbq, ne_eq, srcRows, awo, aggEq, eqF, litEq, andO, qwl, qwo, qOp, Xbr, Xbs, Xbt, lop, Yaa, Yab, Xbu, Xbv, Xbw, oneK, Xbx, Xby, Xbz, Xca, Xcb, Xcc, Xcd, Xce, Xcf, Xcg, Xch, stepOp, Xci, Xcj, Xck, pairO, pureOp, heapOp, entry, slotsOf, ev, evL, evP, evO, lk, up, St.put, St.drop, constAV, cellAV, cellsAV, plain, binV, intBin, strBin, guardBit, boolOf, fnOf, intOfAV, bound, resOf, retV, moved, rowOf, valAt, Kd.agg, AV.cells, splice, places, fillAV, rowsFill, Hp.none, Yac, Yad, Yae, Yaf, ↓reduceIte, reduceCtorEq, Nat.reduceLT, Nat.reduceEqDiff, Nat.reduceAdd, Nat.reduceLeDiff, Nat.reducePow, Nat.reduceMul, Yay, Yaz, Yag, Yah, Yai, Yaj, Yak, Yal, Yam, Yan, Yao, Yap, Yaq, Yar, Yas, Yat, Yau, Yav, Yaw, Yax, Ybc, Ybd, Yba, Ybb, Yzz, tyW, encK, i64w]
          refine ⟨[encE (cpE k)], hnext, ?_⟩
          exact St.cp_of 3 [4] (by show 3 ≤ 5; decide) rfl rfl (by decide) (by show ∀ x ∈ [4], 3 ≤ x ∧ x < 5; decide) (allc ⟨_, rfl, .ptr (by show 0 < 4; decide) rfl⟩ (allc ⟨_, rfl, .ptr (by show 1 < 4; decide) rfl⟩ (allc ⟨_, rfl, .ptr (by show 2 < 4; decide) rfl⟩ (allc ⟨_, rfl, .pure (.vec (pure_rows pure_encE _))⟩ (allc ⟨_, rfl, .pure (.lit _)⟩ (allc ⟨_, rfl, .pure (.lit _)⟩ alln))))))
              (allc ⟨by show 0 < 4; decide, _, rfl, .cons (.fn .nil (.cons (.ptr (by show 0 < 4; decide) rfl) .nil)) .nil⟩ (allc ⟨by show 1 < 4; decide, _, rfl, rnL_encK (.mk op name set lz (.mk gop gn gname gkids) kids 0 place) (.own (by show 3 < 4; decide) rfl)⟩ (allc ⟨by show 2 < 4; decide, _, rfl, .pure pure_zeE⟩ alln)))
              (allc ⟨by show 3 < 4; decide, _, rfl, rfl, rfl, .pure (by simpa using pure_encE (cpE k))⟩ alln)
      | cons x l =>
        simp only [List.length_cons] at hxl
        have hfit : fits (l.length + 1 + 1) 152 := fits_of' (by omega) (by omega)
        simp only [Xaa, Xab, Xac, Xad, Xae, Xaf, Xag, Xah, Xai, Xaj, Xak, Xal, Xam, Xan, Xao, Xap, Xaq, Xar, Xas, Xat, Xau, Xav, Xaw, Xax, Xay, Xaz, Xba, Xbb, awl, Xbc, Xbd, Xbe, Xbf, Xbg, Xbh, Xbi, Xbj, Xbk, Xbl, Xbm, Xbn, Xbo, Xbp, Xbq, ne_eq, srcRows, awo, aggEq, eqF, litEq, andO, qwl, qwo, qOp, Xbr, Xbs, Xbt, lop, Yaa, Yab, Xbu, Xbv, Xbw, oneK, Xbx, Xby, Xbz, Xca, Xcb, Xcc, Xcd, Xce, Xcf, Xcg, Xch, stepOp, Xci, Xcj, Xck, pairO, pureOp, heapOp, entry, slotsOf, ev, evL, evP, evO, lk, up, St.put, St.drop, constAV, cellAV, cellsAV, plain, binV, intBin, strBin, guardBit, boolOf, fnOf, intOfAV, bound, resOf, retV, moved, rowOf, valAt, Kd.agg, AV.cells, splice, places, fillAV, rowsFill, Hp.none, Yac, Yad, Yae, Yaf, ↓reduceIte, reduceCtorEq, Nat.reduceLT, Nat.reduceEqDiff, Nat.reduceAdd, Nat.reduceLeDiff, Nat.reducePow, Nat.reduceMul, Yay, Yaz, Yag, Yah, Yai, Yaj, Yak, Yal, Yam, Yan, Yao, Yap, Yaq, Yar, Yas, Yat, Yau, Yav, Yaw, Yax, Ybc, Ybd, Yba, Ybb, Yzz, tyW, grA, grT, grN, zeE]
        refine aw_drawC (n := 35) (σ' := ⟨[(1, .ptr 0 0), (2, .ptr 1 0), (3, .ptr 2 0), (19, .vec (kids.map encE) false), (20, .lit (.int .i64 kids.length)), (21, .lit (.int .i64 i))],
          ⟨[(0, [.fn (.func 51) [] [.ptr 0 0]]), (1, encK (.own 3 (l.length + 1 + 1)) (.mk op name set lz (.mk gop gn gname gkids) kids 0 place)), (2, zeE)], [(3, ⟨x :: l ++ [encE (cpE k)], 0, 11⟩)], 5⟩, 35⟩) 5 6 (.alt 6 (.alt 7 (.alt 8 .leaf .nil) .nil) .nil) rfl (by decide) (by decide) mixed (by kernel_rfl) (by decide) ?_ ?_
        · simp only [Xaa, Xab, Xac, Xad, Xae, Xaf, Xag, Xah, Xai, Xaj, Xak, Xal, Xam, Xan, Xao, Xap, Xaq, Xar, Xas, Xat, Xau, Xav, Xaw, Xax, Xay, Xaz, Xba, Xbb, awl, Xbc, Xbd, Xbe, Xbf, Xbg, Xbh, Xbi, Xbj, Xbk, Xbl, Xbm, Xbn, Xbo, Xbp, Xbq, ne_eq, srcRows, awo, aggEq, eqF, litEq, andO, qwl, qwo, qOp, Xbr, Xbs, Xbt, lop, Yaa, Yab, Xbu, Xbv, Xbw, oneK, Xbx, Xby, Xbz, Xca, Xcb, Xcc, Xcd, Xce, Xcf, Xcg, Xch, stepOp, Xci, Xcj, Xck, pairO, pureOp, heapOp, entry, slotsOf, ev, evL, evP, evO, lk, up, St.put, St.drop, constAV, cellAV, cellsAV, plain, binV, intBin, strBin, guardBit, boolOf, fnOf, intOfAV, bound, resOf, retV, moved, rowOf, valAt, Kd.agg, AV.cells, splice, places, fillAV, rowsFill, Hp.none, Yac, Yad, Yae, Yaf, ↓reduceIte, reduceCtorEq, Nat.reduceLT, Nat.reduceEqDiff, Nat.reduceAdd, Nat.reduceLeDiff, Nat.reducePow, Nat.reduceMul, Yay, Yaz, Yag, Yah, Yai, Yaj, Yak, Yal, Yam, Yan, Yao, Yap, Yaq, Yar, Yas, Yat, Yau, Yav, Yaw, Yax, Ybc, Ybd, Yba, Ybb, Yzz, tyW, hkl, encE_take, tyFn]
          refine CallQ_intro (v := .agg (encE (cpE k))) call51 ?_ ?_
          · exact wk_sub (pureE k) (pureE (cpE k)) rfl rfl (by show 1 ≤ 5; decide) (ih k hm)
          simp only [Xaa, Xab, Xac, Xad, Xae, Xaf, Xag, Xah, Xai, Xaj, Xak, Xal, Xam, Xan, Xao, Xap, Xaq, Xar, Xas, Xat, Xau, Xav, Xaw, Xax, Xay, Xaz, Xba, Xbb, awl, Xbc, Xbd, Xbe, Xbf, Xbg, Xbh, Xbi, Xbj, Xbk, Xbl, Xbm, Xbn, Xbo, Xbp, Xbq, ne_eq, srcRows, awo, aggEq, eqF, litEq, andO, qwl, qwo, qOp, Xbr, Xbs, Xbt, lop, Yaa, Yab, Xbu, Xbv, Xbw, oneK, Xbx, Xby, Xbz, Xca, Xcb, Xcc, Xcd, Xce, Xcf, Xcg, Xch, stepOp, Xci, Xcj, Xck, pairO, pureOp, heapOp, entry, slotsOf, ev, evL, evP, evO, lk, up, St.put, St.drop, constAV, cellAV, cellsAV, plain, binV, intBin, strBin, guardBit, boolOf, fnOf, intOfAV, bound, resOf, retV, moved, rowOf, valAt, Kd.agg, AV.cells, splice, places, fillAV, rowsFill, Hp.none, Yac, Yad, Yae, Yaf, ↓reduceIte, reduceCtorEq, Nat.reduceLT, Nat.reduceEqDiff, Nat.reduceAdd, Nat.reduceLeDiff, Nat.reducePow, Nat.reduceMul, Yay, Yaz, Yag, Yah, Yai, Yaj, Yak, Yal, Yam, Yan, Yao, Yap, Yaq, Yar, Yas, Yat, Yau, Yav, Yaw, Yax, Ybc, Ybd, Yba, Ybb, Yzz, tyW, hcl, encE_take, List.mem_singleton, forall_eq, List.not_mem_nil, false_imp_iff, implies_true, hfit]
          exact St.wk.cp (St.le.wk (by simp [St.le, lk, encK, zeE]))
        · simp (disch := omega) only [Xaa, Xab, Xac, Xad, Xae, Xaf, Xag, Xah, Xai, Xaj, Xak, Xal, Xam, Xan, Xao, Xap, Xaq, Xar, Xas, Xat, Xau, Xav, Xaw, Xax, Xay, Xaz, Xba, Xbb, awl, Xbc, Xbd, Xbe, Xbf, Xbg, Xbh, Xbi, Xbj, Xbk, Xbl, Xbm, Xbn, Xbo, Xbp, Xbq, ne_eq, srcRows, awo, aggEq, eqF, litEq, andO, qwl, qwo, qOp, Xbr, Xbs, Xbt, lop, Yaa, Yab, Xbu, Xbv, Xbw, oneK, Xbx, Xby, Xbz, Xca, Xcb, Xcc, Xcd, Xce, Xcf, Xcg, Xch, stepOp, Xci, Xcj, Xck, pairO, pureOp, heapOp, entry, slotsOf, ev, evL, evP, evO, lk, up, St.put, St.drop, constAV, cellAV, cellsAV, plain, binV, intBin, strBin, guardBit, boolOf, fnOf, intOfAV, bound, resOf, retV, moved, rowOf, valAt, Kd.agg, AV.cells, splice, places, fillAV, rowsFill, Hp.none, Yac, Yad, Yae, Yaf, ↓reduceIte, reduceCtorEq, Nat.reduceLT, Nat.reduceEqDiff, Nat.reduceAdd, Nat.reduceLeDiff, Nat.reducePow, Nat.reduceMul, Yay, Yaz, Yag, Yah, Yai, Yaj, Yak, Yal, Yam, Yan, Yao, Yap, Yaq, Yar, Yas, Yat, Yau, Yav, Yaw, Yax, Ybc, Ybd, Yba, Ybb, Yzz, tyW, encK, i64w]
          have hlen2 : (l ++ [encE (cpE k)]).length + 1 = l.length + 1 + 1 := by simp
          refine ⟨x :: l ++ [encE (cpE k)], hnext, ?_⟩
          have hpx : ∀ y ∈ x :: (l ++ [encE (cpE k)]), ∀ c ∈ y, Ab.Pure c := by
            rw [← List.cons_append, hnext]; exact pure_rows pure_encE _
          simp only [List.cons_append, hlen2]
          exact St.cp_of 3 [3] (by show 3 ≤ 5; decide) rfl rfl (by decide) (by show ∀ x ∈ [3], 3 ≤ x ∧ x < 5; decide) (allc ⟨_, rfl, .ptr (by show 0 < 4; decide) rfl⟩ (allc ⟨_, rfl, .ptr (by show 1 < 4; decide) rfl⟩ (allc ⟨_, rfl, .ptr (by show 2 < 4; decide) rfl⟩ (allc ⟨_, rfl, .pure (.vec (pure_rows pure_encE _))⟩ (allc ⟨_, rfl, .pure (.lit _)⟩ (allc ⟨_, rfl, .pure (.lit _)⟩ alln))))))
              (allc ⟨by show 0 < 4; decide, _, rfl, .cons (.fn .nil (.cons (.ptr (by show 0 < 4; decide) rfl) .nil)) .nil⟩ (allc ⟨by show 1 < 4; decide, _, rfl, rnL_encK (.mk op name set lz (.mk gop gn gname gkids) kids 0 place) (.own (by show 3 < 4; decide) rfl)⟩ (allc ⟨by show 2 < 4; decide, _, rfl, .pure pure_zeE⟩ alln)))
              (allc ⟨by show 3 < 4; decide, _, rfl, rfl, rfl, .pure hpx⟩ alln)
    · rintro xs hxs
      simp only [Xaa, Xab, Xac, Xad, Xae, Xaf, Xag, Xah, Xai, Xaj, Xak, Xal, Xam, Xan, Xao, Xap, Xaq, Xar, Xas, Xat, Xau, Xav, Xaw, Xax, Xay, Xaz, Xba, Xbb, awl, Xbc, Xbd, Xbe, Xbf, Xbg, Xbh, Xbi, Xbj, Xbk, Xbl, Xbm, Xbn, Xbo, Xbp, Xbq, ne_eq, srcRows, awo, aggEq, eqF, litEq, andO, qwl, qwo, qOp, Xbr, Xbs, Xbt, lop, Yaa, Yab, Xbu, Xbv, Xbw, oneK, Xbx, Xby, Xbz, Xca, Xcb, Xcc, Xcd, Xce, Xcf, Xcg, Xch, stepOp, Xci, Xcj, Xck, pairO, pureOp, heapOp, entry, slotsOf, ev, evL, evP, evO, lk, up, St.put, St.drop, constAV, cellAV, cellsAV, plain, binV, intBin, strBin, guardBit, boolOf, fnOf, intOfAV, bound, resOf, retV, moved, rowOf, valAt, Kd.agg, AV.cells, splice, places, fillAV, rowsFill, Hp.none, Yac, Yad, Yae, Yaf, ↓reduceIte, reduceCtorEq, Nat.reduceLT, Nat.reduceEqDiff, Nat.reduceAdd, Nat.reduceLeDiff, Nat.reducePow, Nat.reduceMul, Yay, Yaz, Yag, Yah, Yai, Yaj, Yak, Yal, Yam, Yan, Yao, Yap, Yaq, Yar, Yas, Yat, Yau, Yav, Yaw, Yax, Ybc, Ybd, Yba, Ybb, Yzz, tyW, encK, zeE, List.length_map]
      refine .intro (fun hb => absurd (of_decide_eq_true hb) (by omega)) (fun _ => ?_)
      simp only [Xaa, Xab, Xac, Xad, Xae, Xaf, Xag, Xah, Xai, Xaj, Xak, Xal, Xam, Xan, Xao, Xap, Xaq, Xar, Xas, Xat, Xau, Xav, Xaw, Xax, Xay, Xaz, Xba, Xbb, awl, Xbc, Xbd, Xbe, Xbf, Xbg, Xbh, Xbi, Xbj, Xbk, Xbl, Xbm, Xbn, Xbo, Xbp, Xbq, ne_eq, srcRows, awo, aggEq, eqF, litEq, andO, qwl, qwo, qOp, Xbr, Xbs, Xbt, lop, Yaa, Yab, Xbu, Xbv, Xbw, oneK, Xbx, Xby, Xbz, Xca, Xcb, Xcc, Xcd, Xce, Xcf, Xcg, Xch, stepOp, Xci, Xcj, Xck, pairO, pureOp, heapOp, entry, slotsOf, ev, evL, evP, evO, lk, up, St.put, St.drop, constAV, cellAV, cellsAV, plain, binV, intBin, strBin, guardBit, boolOf, fnOf, intOfAV, bound, resOf, retV, moved, rowOf, valAt, Kd.agg, AV.cells, splice, places, fillAV, rowsFill, Hp.none, Yac, Yad, Yae, Yaf, ↓reduceIte, reduceCtorEq, Nat.reduceLT, Nat.reduceEqDiff, Nat.reduceAdd, Nat.reduceLeDiff, Nat.reducePow, Nat.reduceMul, Yay, Yaz, Yag, Yah, Yai, Yaj, Yak, Yal, Yam, Yan, Yao, Yap, Yaq, Yar, Yas, Yat, Yau, Yav, Yaw, Yax, Ybc, Ybd, Yba, Ybb, Yzz, tyW]
      have hall : xs = (kids.map cpE).map encE := by rw [hxs, List.take_of_length_le (by simp)]
      refine ⟨_, St.wk.cp (St.wk.refl _), ?_⟩
      simp only [Xaa, Xab, Xac, Xad, Xae, Xaf, Xag, Xah, Xai, Xaj, Xak, Xal, Xam, Xan, Xao, Xap, Xaq, Xar, Xas, Xat, Xau, Xav, Xaw, Xax, Xay, Xaz, Xba, Xbb, awl, Xbc, Xbd, Xbe, Xbf, Xbg, Xbh, Xbi, Xbj, Xbk, Xbl, Xbm, Xbn, Xbo, Xbp, Xbq, ne_eq, srcRows, awo, aggEq, eqF, litEq, andO, qwl, qwo, qOp, Xbr, Xbs, Xbt, lop, Yaa, Yab, Xbu, Xbv, Xbw, oneK, Xbx, Xby, Xbz, Xca, Xcb, Xcc, Xcd, Xce, Xcf, Xcg, Xch, stepOp, Xci, Xcj, Xck, pairO, pureOp, heapOp, entry, slotsOf, ev, evL, evP, evO, lk, up, St.put, St.drop, constAV, cellAV, cellsAV, plain, binV, intBin, strBin, guardBit, boolOf, fnOf, intOfAV, bound, resOf, retV, moved, rowOf, valAt, Kd.agg, AV.cells, splice, places, fillAV, rowsFill, Hp.none, Yac, Yad, Yae, Yaf, ↓reduceIte, reduceCtorEq, Nat.reduceLT, Nat.reduceEqDiff, Nat.reduceAdd, Nat.reduceLeDiff, Nat.reducePow, Nat.reduceMul, Yay, Yaz, Yag, Yah, Yai, Yaj, Yak, Yal, Yam, Yan, Yao, Yap, Yaq, Yar, Yas, Yat, Yau, Yav, Yaw, Yax, Ybc, Ybd, Yba, Ybb, Yzz, tyW]
      exact ⟨3, by rw [ckr_mk, ← hall]; rfl, by rw [ckr_mk, ← hall], by rw [ckr_mk, ← hall], rfl, by decide⟩
  termination_by SizeOf.sizeOf e
  decreasing_by simp_wf; have := List.sizeOf_lt_of_mem hk; omega
end Go.Proofs.Ytkbnnipiacajoaa
