/- Contracts: the places of bits, and one row put into another. Conditions: those that each theorem names. -/
import Derived.Test.YtogdlomemaoajaaMore2
namespace Go.Proofs.Ytogdlomemaoajaa
open Go.Ab
set_option linter.unusedSimpArgs false
set_option linter.unusedVariables false
set_option maxRecDepth 20000

def encI (n : Nat) : List AV := [.lit (.int .i64 n)]
theorem pure_encI (n : Nat) : ∀ c ∈ encI n, Ab.Pure c := by simp [encI, Pure.lit]
/-- A row of bits that is the caller's (true), or stays (false). -/
def wv (w : Int) : Bool → AV
  | true => .own 0 1
  | false => .vec [[.lit (.int .u64 w)]] false
def wtk (w : Int) : Bool → List (Nat × Tk)
  | true => [(0, wT w)]
  | false => []
def wHb (w : Int) (b : Bool) : Hp := ⟨[], wtk w b, 1⟩
theorem getF_spec (w i : Int) (h0 : 0 ≤ i) (h1 : i < 64) : PCall Try.prog 37 [.vec [[.lit (.int .u64 w)]] false, .lit (.int .i64 i)] (.lit (.bool (getW w i))) := by
  refine PCall_intro Try.func37 rfl Try.ntmps37 (rs := [.tmp 4]) rfl (by simp) ?_
  have a1 : ¬ (6 : Int) < 0 := by decide
  have a2 := shr6 h0 h1
  have a3 := and63 h0 h1
  have a5 : (0 : Int).toNat = 0 := rfl
  have a6 : (0 : Int) < ((1 : Nat) : Int) := by decide
  have a7 : ¬ i < 0 := by omega
  have a8 := uw h0 h1
  simp only [Xaa, Xab, Xac, Xad, Xae, Xaf, Xag, Xah, Xai, Xaj, Xak, Xal, Xam, Xan, Xao, Xap, Xaq, Xar, Xas, Xat, Xau, Xav, Xaw, Xax, Xay, Xaz, Xba, Xbb, awl, Xbc, Xbd, Xbe, Xbf, Xbg, Xbh, Xbi, Xbj, Xbk, Xbl, Xbm, Xbn, Xbo, Xbp, Xbq, ne_eq, srcRows, awo, aggEq, eqF, litEq, andO, qwl, qwo, qOp, Xbr, Xbs, Xbt, lop, Yaa, Yab, Xbu, Xbv, Xbw, oneK, Xbx, Xby, Xbz, Xca, Xcb, Xcc, Xcd, Xce, Xcf, Xcg, Xch, stepOp, Xci, Xcj, Xck, pairO, pureOp, heapOp, entry, slotsOf, ev, evL, evP, evO, lk, up, St.put, St.drop, constAV, cellAV, cellsAV, plain, binV, intBin, strBin, guardBit, boolOf, fnOf, intOfAV, bound, resOf, retV, moved, rowOf, valAt, Kd.agg, AV.cells, splice, places, fillAV, rowsFill, Hp.none, Yac, Yad, Yae, Yaf, ↓reduceIte, reduceCtorEq, Nat.reduceLT, Nat.reduceEqDiff, Nat.reduceAdd, Nat.reduceLeDiff, Nat.reducePow, Nat.reduceMul, Yay, Yaz, Yag, Yah, Yai, Yaj, Yak, Yal, Yam, Yan, Yao, Yap, Yaq, Yar, Yas, Yat, Yau, Yav, Yaw, Yax, Ybc, Ybd, Yba, Ybb, Yzz, tyW, a1, a2, a3, a5, a6, a7, a8, Int.le_refl, if_false, List.getD_cons_zero]
  exact expo_pure (.lit _)
theorem getB_spec (w i : Int) (b : Bool) (h0 : 0 ≤ i) (h1 : i < 64) {H : Hp} (hk : H.toks = wtk w b ++ H.toks.drop (wtk w b).length) (hb : lk H.boxes 0 = none) (hn : 1 ≤ H.nx) : QCall Try.prog 37 [wv w b, .lit (.int .i64 i)] H (.lit (.bool (getW w i))) := by
  cases b
  · exact SCall_pure (getF_spec w i h0 h1) (allc (.vec (by simp [Pure.lit])) (allc (.lit _) alln)) (.lit _) H
  · exact get_at w i h0 h1 (by rw [hk]; rfl) hn hb
def plL (n : Nat) (w : Int) : List Nat := (List.range n).filter fun i => getW w i
theorem places_spec (w : Int) (b : Bool) (n : Nat) (hn : n ≤ 60) : SCall Try.prog 22 [wv w b, .lit (.int .i64 n)] (wHb w b) (fun r h' => r = grA 1 ((plL n w).map encI) ∧ h' = ⟨[], wtk w b ++ grT 1 1 ((plL n w).map encI), grN 1 ((plL n w).map encI)⟩) := by
  refine SCall_introC Try.func22 rfl Try.ntmps22 (rs := [.tmp 4]) rfl (by cases b <;> simp) (N := 1) rfl ?_
  have hsz : ∀ i, ((plL i w).map encI).length ≤ i := fun i => by simp [plL]; exact Nat.le_trans (List.length_filter_le _ _) (by simp)
  have hsucc : ∀ i : Nat, (plL (i + 1) w).map encI = if getW w i then (plL i w).map encI ++ [encI i] else (plL i w).map encI := fun i => by
    simp only [plL, List.range_succ, List.filter_append, List.map_append]
    cases h : getW w i <;> simp [h]
  cases b
  · simp only [Xaa, Xab, Xac, Xad, Xae, Xaf, Xag, Xah, Xai, Xaj, Xak, Xal, Xam, Xan, Xao, Xap, Xaq, Xar, Xas, Xat, Xau, Xav, Xaw, Xax, Xay, Xaz, Xba, Xbb, awl, Xbc, Xbd, Xbe, Xbf, Xbg, Xbh, Xbi, Xbj, Xbk, Xbl, Xbm, Xbn, Xbo, Xbp, Xbq, ne_eq, srcRows, awo, aggEq, eqF, litEq, andO, qwl, qwo, qOp, Xbr, Xbs, Xbt, lop, Yaa, Yab, Xbu, Xbv, Xbw, oneK, Xbx, Xby, Xbz, Xca, Xcb, Xcc, Xcd, Xce, Xcf, Xcg, Xch, stepOp, Xci, Xcj, Xck, pairO, pureOp, heapOp, entry, slotsOf, ev, evL, evP, evO, lk, up, St.put, St.drop, constAV, cellAV, cellsAV, plain, binV, intBin, strBin, guardBit, boolOf, fnOf, intOfAV, bound, resOf, retV, moved, rowOf, valAt, Kd.agg, AV.cells, splice, places, fillAV, rowsFill, Hp.none, Yac, Yad, Yae, Yaf, ↓reduceIte, reduceCtorEq, Nat.reduceLT, Nat.reduceEqDiff, Nat.reduceAdd, Nat.reduceLeDiff, Nat.reducePow, Nat.reduceMul, Yay, Yaz, Yag, Yah, Yai, Yaj, Yak, Yal, Yam, Yan, Yao, Yap, Yaq, Yar, Yas, Yat, Yau, Yav, Yaw, Yax, Ybc, Ybd, Yba, Ybb, Yzz, tyW, wHb, wtk, wv]
    refine aw_forE n 1 (fun i (xs : List (List AV)) => ⟨[(0, wv w false), (4, grA 1 xs), (6, .lit (.int .i64 n)), (7, .lit (.int .i64 i))], ⟨[], wtk w false ++ grT 1 1 xs, grN 1 xs⟩, 19⟩) (fun i xs => xs = (plL i w).map encI) (Nat.le_refl 1) [] (St.wk.cp (St.wk_slots (by simp [lk, wv, grA]))) rfl ?_ ?_
    · rintro i xs hi hxs
      have hi1 : (i : Int) < (n : Int) := by omega
      have hs := hsz i
      have hc := hsucc i
      rw [← hxs] at hs hc
      simp only [Xaa, Xab, Xac, Xad, Xae, Xaf, Xag, Xah, Xai, Xaj, Xak, Xal, Xam, Xan, Xao, Xap, Xaq, Xar, Xas, Xat, Xau, Xav, Xaw, Xax, Xay, Xaz, Xba, Xbb, awl, Xbc, Xbd, Xbe, Xbf, Xbg, Xbh, Xbi, Xbj, Xbk, Xbl, Xbm, Xbn, Xbo, Xbp, Xbq, ne_eq, srcRows, awo, aggEq, eqF, litEq, andO, qwl, qwo, qOp, Xbr, Xbs, Xbt, lop, Yaa, Yab, Xbu, Xbv, Xbw, oneK, Xbx, Xby, Xbz, Xca, Xcb, Xcc, Xcd, Xce, Xcf, Xcg, Xch, stepOp, Xci, Xcj, Xck, pairO, pureOp, heapOp, entry, slotsOf, ev, evL, evP, evO, lk, up, St.put, St.drop, constAV, cellAV, cellsAV, plain, binV, intBin, strBin, guardBit, boolOf, fnOf, intOfAV, bound, resOf, retV, moved, rowOf, valAt, Kd.agg, AV.cells, splice, places, fillAV, rowsFill, Hp.none, Yac, Yad, Yae, Yaf, ↓reduceIte, reduceCtorEq, Nat.reduceLT, Nat.reduceEqDiff, Nat.reduceAdd, Nat.reduceLeDiff, Nat.reducePow, Nat.reduceMul, Yay, Yaz, Yag, Yah, Yai, Yaj, Yak, Yal, Yam, Yan, Yao, Yap, Yaq, Yar, Yas, Yat, Yau, Yav, Yaw, Yax, Ybc, Ybd, Yba, Ybb, Yzz, tyW, wv, wtk]
      refine .intro (fun hb => ?_) (fun hb => ?_)
      case' refine_2 => exfalso; exact of_decide_eq_false hb hi1
      clear hb
      rw [Xaa, Xam, Xad]
      simp only [Xaa, Xab, Xac, Xad, Xae, Xaf, Xag, Xah, Xai, Xaj, Xak, Xal, Xam, Xan, Xao, Xap, Xaq, Xar, Xas, Xat, Xau, Xav, Xaw, Xax, Xay, Xaz, Xba, Xbb, awl, Xbc, Xbd, Xbe, Xbf, Xbg, Xbh, Xbi, Xbj, Xbk, Xbl, Xbm, Xbn, Xbo, Xbp, Xbq, ne_eq, srcRows, awo, aggEq, eqF, litEq, andO, qwl, qwo, qOp, Xbr, Xbs, Xbt, lop, Yaa, Yab, Xbu, Xbv, Xbw, oneK, Xbx, Xby, Xbz, Xca, Xcb, Xcc, Xcd, Xce, Xcf, Xcg, Xch, stepOp, Xci, Xcj, Xck, pairO, pureOp, heapOp, entry, slotsOf, ev, evL, evP, evO, lk, up, St.put, St.drop, constAV, cellAV, cellsAV, plain, binV, intBin, strBin, guardBit, boolOf, fnOf, intOfAV, bound, resOf, retV, moved, rowOf, valAt, Kd.agg, AV.cells, splice, places, fillAV, rowsFill, Hp.none, Yac, Yad, Yae, Yaf, ↓reduceIte, reduceCtorEq, Nat.reduceLT, Nat.reduceEqDiff, Nat.reduceAdd, Nat.reduceLeDiff, Nat.reducePow, Nat.reduceMul, Yay, Yaz, Yag, Yah, Yai, Yaj, Yak, Yal, Yam, Yan, Yao, Yap, Yaq, Yar, Yas, Yat, Yau, Yav, Yaw, Yax, Ybc, Ybd, Yba, Ybb, Yzz, tyW]
      refine CallK_of call37 (getB_spec w i false (by omega) (by omega) (by simp [wtk]) rfl (by cases xs <;> simp [grN])) ?_
      rintro r h' ⟨rfl, rfl⟩
      cases hg : getW w i
      · rw [hg] at hc
        simp (disch := omega) only [Xaa, Xab, Xac, Xad, Xae, Xaf, Xag, Xah, Xai, Xaj, Xak, Xal, Xam, Xan, Xao, Xap, Xaq, Xar, Xas, Xat, Xau, Xav, Xaw, Xax, Xay, Xaz, Xba, Xbb, awl, Xbc, Xbd, Xbe, Xbf, Xbg, Xbh, Xbi, Xbj, Xbk, Xbl, Xbm, Xbn, Xbo, Xbp, Xbq, ne_eq, srcRows, awo, aggEq, eqF, litEq, andO, qwl, qwo, qOp, Xbr, Xbs, Xbt, lop, Yaa, Yab, Xbu, Xbv, Xbw, oneK, Xbx, Xby, Xbz, Xca, Xcb, Xcc, Xcd, Xce, Xcf, Xcg, Xch, stepOp, Xci, Xcj, Xck, pairO, pureOp, heapOp, entry, slotsOf, ev, evL, evP, evO, lk, up, St.put, St.drop, constAV, cellAV, cellsAV, plain, binV, intBin, strBin, guardBit, boolOf, fnOf, intOfAV, bound, resOf, retV, moved, rowOf, valAt, Kd.agg, AV.cells, splice, places, fillAV, rowsFill, Hp.none, Yac, Yad, Yae, Yaf, ↓reduceIte, reduceCtorEq, Nat.reduceLT, Nat.reduceEqDiff, Nat.reduceAdd, Nat.reduceLeDiff, Nat.reducePow, Nat.reduceMul, Yay, Yaz, Yag, Yah, Yai, Yaj, Yak, Yal, Yam, Yan, Yao, Yap, Yaq, Yar, Yas, Yat, Yau, Yav, Yaw, Yax, Ybc, Ybd, Yba, Ybb, Yzz, tyW, i64w]
        exact ⟨xs, hc.symm, St.wk.cp (St.wk_slots (by simp [lk]))⟩
      · rw [hg] at hc
        have hnil : ∀ q ∈ ([] : List (List AV)), q.length = 1 := alln
        have hone : ∀ q ∈ [[AV.lit (.int .i64 i)]], q.length = 1 := allc rfl alln
        cases xs with
        | nil =>
          have hfit : fits 1 8 := fits_of' (by decide) (by decide)
          simp (disch := omega) only [Xaa, Xab, Xac, Xad, Xae, Xaf, Xag, Xah, Xai, Xaj, Xak, Xal, Xam, Xan, Xao, Xap, Xaq, Xar, Xas, Xat, Xau, Xav, Xaw, Xax, Xay, Xaz, Xba, Xbb, awl, Xbc, Xbd, Xbe, Xbf, Xbg, Xbh, Xbi, Xbj, Xbk, Xbl, Xbm, Xbn, Xbo, Xbp, Xbq, ne_eq, srcRows, awo, aggEq, eqF, litEq, andO, qwl, qwo, qOp, Xbr, Xbs, Xbt, lop, Yaa, Yab, Xbu, Xbv, Xbw, oneK, Xbx, Xby, Xbz, Xca, Xcb, Xcc, Xcd, Xce, Xcf, Xcg, Xch, stepOp, Xci, Xcj, Xck, pairO, pureOp, heapOp, entry, slotsOf, ev, evL, evP, evO, lk, up, St.put, St.drop, constAV, cellAV, cellsAV, plain, binV, intBin, strBin, guardBit, boolOf, fnOf, intOfAV, bound, resOf, retV, moved, rowOf, valAt, Kd.agg, AV.cells, splice, places, fillAV, rowsFill, Hp.none, Yac, Yad, Yae, Yaf, ↓reduceIte, reduceCtorEq, Nat.reduceLT, Nat.reduceEqDiff, Nat.reduceAdd, Nat.reduceLeDiff, Nat.reducePow, Nat.reduceMul, Yay, Yaz, Yag, Yah, Yai, Yaj, Yak, Yal, Yam, Yan, Yao, Yap, Yaq, Yar, Yas, Yat, Yau, Yav, Yaw, Yax, Ybc, Ybd, Yba, Ybb, Yzz, tyW, i64w, grA_nil, grA_cons, grT_nil, grT_cons, grN, hfit, eq_true hnil, eq_true hone]
          exact ⟨[encI i], hc.symm, St.wk.cp (St.wk_slots (by simp [lk, grA, encI]))⟩
        | cons x l =>
          have hfit : fits (l.length + 1 + 1) 8 := fits_of' (by simp at hs; omega) (by simp at hs; omega)
          simp (disch := omega) only [Xaa, Xab, Xac, Xad, Xae, Xaf, Xag, Xah, Xai, Xaj, Xak, Xal, Xam, Xan, Xao, Xap, Xaq, Xar, Xas, Xat, Xau, Xav, Xaw, Xax, Xay, Xaz, Xba, Xbb, awl, Xbc, Xbd, Xbe, Xbf, Xbg, Xbh, Xbi, Xbj, Xbk, Xbl, Xbm, Xbn, Xbo, Xbp, Xbq, ne_eq, srcRows, awo, aggEq, eqF, litEq, andO, qwl, qwo, qOp, Xbr, Xbs, Xbt, lop, Yaa, Yab, Xbu, Xbv, Xbw, oneK, Xbx, Xby, Xbz, Xca, Xcb, Xcc, Xcd, Xce, Xcf, Xcg, Xch, stepOp, Xci, Xcj, Xck, pairO, pureOp, heapOp, entry, slotsOf, ev, evL, evP, evO, lk, up, St.put, St.drop, constAV, cellAV, cellsAV, plain, binV, intBin, strBin, guardBit, boolOf, fnOf, intOfAV, bound, resOf, retV, moved, rowOf, valAt, Kd.agg, AV.cells, splice, places, fillAV, rowsFill, Hp.none, Yac, Yad, Yae, Yaf, ↓reduceIte, reduceCtorEq, Nat.reduceLT, Nat.reduceEqDiff, Nat.reduceAdd, Nat.reduceLeDiff, Nat.reducePow, Nat.reduceMul, Yay, Yaz, Yag, Yah, Yai, Yaj, Yak, Yal, Yam, Yan, Yao, Yap, Yaq, Yar, Yas, Yat, Yau, Yav, Yaw, Yax, Ybc, Ybd, Yba, Ybb, Yzz, tyW, i64w, grA_nil, grA_cons, grT_nil, grT_cons, grN, hfit, eq_true hnil, eq_true hone]
          refine ⟨x :: l ++ [encI i], hc.symm, ?_⟩
          exact St.wk.cp (St.wk_slots (by simp [lk, grA]))
    · rintro xs hxs
      simp only [Xaa, Xab, Xac, Xad, Xae, Xaf, Xag, Xah, Xai, Xaj, Xak, Xal, Xam, Xan, Xao, Xap, Xaq, Xar, Xas, Xat, Xau, Xav, Xaw, Xax, Xay, Xaz, Xba, Xbb, awl, Xbc, Xbd, Xbe, Xbf, Xbg, Xbh, Xbi, Xbj, Xbk, Xbl, Xbm, Xbn, Xbo, Xbp, Xbq, ne_eq, srcRows, awo, aggEq, eqF, litEq, andO, qwl, qwo, qOp, Xbr, Xbs, Xbt, lop, Yaa, Yab, Xbu, Xbv, Xbw, oneK, Xbx, Xby, Xbz, Xca, Xcb, Xcc, Xcd, Xce, Xcf, Xcg, Xch, stepOp, Xci, Xcj, Xck, pairO, pureOp, heapOp, entry, slotsOf, ev, evL, evP, evO, lk, up, St.put, St.drop, constAV, cellAV, cellsAV, plain, binV, intBin, strBin, guardBit, boolOf, fnOf, intOfAV, bound, resOf, retV, moved, rowOf, valAt, Kd.agg, AV.cells, splice, places, fillAV, rowsFill, Hp.none, Yac, Yad, Yae, Yaf, ↓reduceIte, reduceCtorEq, Nat.reduceLT, Nat.reduceEqDiff, Nat.reduceAdd, Nat.reduceLeDiff, Nat.reducePow, Nat.reduceMul, Yay, Yaz, Yag, Yah, Yai, Yaj, Yak, Yal, Yam, Yan, Yao, Yap, Yaq, Yar, Yas, Yat, Yau, Yav, Yaw, Yax, Ybc, Ybd, Yba, Ybb, Yzz, tyW, wv, wtk]
      refine .intro (fun hb => absurd (of_decide_eq_true hb) (by omega)) (fun _ => ?_)
      simp only [Xaa, Xab, Xac, Xad, Xae, Xaf, Xag, Xah, Xai, Xaj, Xak, Xal, Xam, Xan, Xao, Xap, Xaq, Xar, Xas, Xat, Xau, Xav, Xaw, Xax, Xay, Xaz, Xba, Xbb, awl, Xbc, Xbd, Xbe, Xbf, Xbg, Xbh, Xbi, Xbj, Xbk, Xbl, Xbm, Xbn, Xbo, Xbp, Xbq, ne_eq, srcRows, awo, aggEq, eqF, litEq, andO, qwl, qwo, qOp, Xbr, Xbs, Xbt, lop, Yaa, Yab, Xbu, Xbv, Xbw, oneK, Xbx, Xby, Xbz, Xca, Xcb, Xcc, Xcd, Xce, Xcf, Xcg, Xch, stepOp, Xci, Xcj, Xck, pairO, pureOp, heapOp, entry, slotsOf, ev, evL, evP, evO, lk, up, St.put, St.drop, constAV, cellAV, cellsAV, plain, binV, intBin, strBin, guardBit, boolOf, fnOf, intOfAV, bound, resOf, retV, moved, rowOf, valAt, Kd.agg, AV.cells, splice, places, fillAV, rowsFill, Hp.none, Yac, Yad, Yae, Yaf, ↓reduceIte, reduceCtorEq, Nat.reduceLT, Nat.reduceEqDiff, Nat.reduceAdd, Nat.reduceLeDiff, Nat.reducePow, Nat.reduceMul, Yay, Yaz, Yag, Yah, Yai, Yaj, Yak, Yal, Yam, Yan, Yao, Yap, Yaq, Yar, Yas, Yat, Yau, Yav, Yaw, Yax, Ybc, Ybd, Yba, Ybb, Yzz, tyW]
      refine ⟨_, St.wk.cp (St.wk.refl _), ?_⟩
      simp only [Xaa, Xab, Xac, Xad, Xae, Xaf, Xag, Xah, Xai, Xaj, Xak, Xal, Xam, Xan, Xao, Xap, Xaq, Xar, Xas, Xat, Xau, Xav, Xaw, Xax, Xay, Xaz, Xba, Xbb, awl, Xbc, Xbd, Xbe, Xbf, Xbg, Xbh, Xbi, Xbj, Xbk, Xbl, Xbm, Xbn, Xbo, Xbp, Xbq, ne_eq, srcRows, awo, aggEq, eqF, litEq, andO, qwl, qwo, qOp, Xbr, Xbs, Xbt, lop, Yaa, Yab, Xbu, Xbv, Xbw, oneK, Xbx, Xby, Xbz, Xca, Xcb, Xcc, Xcd, Xce, Xcf, Xcg, Xch, stepOp, Xci, Xcj, Xck, pairO, pureOp, heapOp, entry, slotsOf, ev, evL, evP, evO, lk, up, St.put, St.drop, constAV, cellAV, cellsAV, plain, binV, intBin, strBin, guardBit, boolOf, fnOf, intOfAV, bound, resOf, retV, moved, rowOf, valAt, Kd.agg, AV.cells, splice, places, fillAV, rowsFill, Hp.none, Yac, Yad, Yae, Yaf, ↓reduceIte, reduceCtorEq, Nat.reduceLT, Nat.reduceEqDiff, Nat.reduceAdd, Nat.reduceLeDiff, Nat.reducePow, Nat.reduceMul, Yay, Yaz, Yag, Yah, Yai, Yaj, Yak, Yal, Yam, Yan, Yao, Yap, Yaq, Yar, Yas, Yat, Yau, Yav, Yaw, Yax, Ybc, Ybd, Yba, Ybb, Yzz, tyW]
      rw [hxs]
      exact ⟨rfl, rfl⟩
  · simp only [Xaa, Xab, Xac, Xad, Xae, Xaf, Xag, Xah, Xai, Xaj, Xak, Xal, Xam, Xan, Xao, Xap, Xaq, Xar, Xas, Xat, Xau, Xav, Xaw, Xax, Xay, Xaz, Xba, Xbb, awl, Xbc, Xbd, Xbe, Xbf, Xbg, Xbh, Xbi, Xbj, Xbk, Xbl, Xbm, Xbn, Xbo, Xbp, Xbq, ne_eq, srcRows, awo, aggEq, eqF, litEq, andO, qwl, qwo, qOp, Xbr, Xbs, Xbt, lop, Yaa, Yab, Xbu, Xbv, Xbw, oneK, Xbx, Xby, Xbz, Xca, Xcb, Xcc, Xcd, Xce, Xcf, Xcg, Xch, stepOp, Xci, Xcj, Xck, pairO, pureOp, heapOp, entry, slotsOf, ev, evL, evP, evO, lk, up, St.put, St.drop, constAV, cellAV, cellsAV, plain, binV, intBin, strBin, guardBit, boolOf, fnOf, intOfAV, bound, resOf, retV, moved, rowOf, valAt, Kd.agg, AV.cells, splice, places, fillAV, rowsFill, Hp.none, Yac, Yad, Yae, Yaf, ↓reduceIte, reduceCtorEq, Nat.reduceLT, Nat.reduceEqDiff, Nat.reduceAdd, Nat.reduceLeDiff, Nat.reducePow, Nat.reduceMul, Yay, Yaz, Yag, Yah, Yai, Yaj, Yak, Yal, Yam, Yan, Yao, Yap, Yaq, Yar, Yas, Yat, Yau, Yav, Yaw, Yax, Ybc, Ybd, Yba, Ybb, Yzz, tyW, wHb, wtk, wv]
    refine aw_forE n 1 (fun i (xs : List (List AV)) => ⟨[(0, wv w true), (4, grA 1 xs), (6, .lit (.int .i64 n)), (7, .lit (.int .i64 i))], ⟨[], wtk w true ++ grT 1 1 xs, grN 1 xs⟩, 19⟩) (fun i xs => xs = (plL i w).map encI) (Nat.le_refl 1) [] (St.wk.cp (St.wk_slots (by simp [lk, wv, grA]))) rfl ?_ ?_
    · rintro i xs hi hxs
      have hi1 : (i : Int) < (n : Int) := by omega
      have hs := hsz i
      have hc := hsucc i
      rw [← hxs] at hs hc
      simp only [Xaa, Xab, Xac, Xad, Xae, Xaf, Xag, Xah, Xai, Xaj, Xak, Xal, Xam, Xan, Xao, Xap, Xaq, Xar, Xas, Xat, Xau, Xav, Xaw, Xax, Xay, Xaz, Xba, Xbb, awl, Xbc, Xbd, Xbe, Xbf, Xbg, Xbh, Xbi, Xbj, Xbk, Xbl, Xbm, Xbn, Xbo, Xbp, Xbq, ne_eq, srcRows, awo, aggEq, eqF, litEq, andO, qwl, qwo, qOp, Xbr, Xbs, Xbt, lop, Yaa, Yab, Xbu, Xbv, Xbw, oneK, Xbx, Xby, Xbz, Xca, Xcb, Xcc, Xcd, Xce, Xcf, Xcg, Xch, stepOp, Xci, Xcj, Xck, pairO, pureOp, heapOp, entry, slotsOf, ev, evL, evP, evO, lk, up, St.put, St.drop, constAV, cellAV, cellsAV, plain, binV, intBin, strBin, guardBit, boolOf, fnOf, intOfAV, bound, resOf, retV, moved, rowOf, valAt, Kd.agg, AV.cells, splice, places, fillAV, rowsFill, Hp.none, Yac, Yad, Yae, Yaf, ↓reduceIte, reduceCtorEq, Nat.reduceLT, Nat.reduceEqDiff, Nat.reduceAdd, Nat.reduceLeDiff, Nat.reducePow, Nat.reduceMul, Yay, Yaz, Yag, Yah, Yai, Yaj, Yak, Yal, Yam, Yan, Yao, Yap, Yaq, Yar, Yas, Yat, Yau, Yav, Yaw, Yax, Ybc, Ybd, Yba, Ybb, Yzz, tyW, wv, wtk]
      refine .intro (fun hb => ?_) (fun hb => ?_)
      case' refine_2 => exfalso; exact of_decide_eq_false hb hi1
      clear hb
      rw [Xaa, Xam, Xad]
      simp only [Xaa, Xab, Xac, Xad, Xae, Xaf, Xag, Xah, Xai, Xaj, Xak, Xal, Xam, Xan, Xao, Xap, Xaq, Xar, Xas, Xat, Xau, Xav, Xaw, Xax, Xay, Xaz, Xba, Xbb, awl, Xbc, Xbd, Xbe, Xbf, Xbg, Xbh, Xbi, Xbj, Xbk, Xbl, Xbm, Xbn, Xbo, Xbp, Xbq, ne_eq, srcRows, awo, aggEq, eqF, litEq, andO, qwl, qwo, qOp, Xbr, Xbs, Xbt, lop, Yaa, Yab, Xbu, Xbv, Xbw, oneK, Xbx, Xby, Xbz, Xca, Xcb, Xcc, Xcd, Xce, Xcf, Xcg, Xch, stepOp, Xci, Xcj, Xck, pairO, pureOp, heapOp, entry, slotsOf, ev, evL, evP, evO, lk, up, St.put, St.drop, constAV, cellAV, cellsAV, plain, binV, intBin, strBin, guardBit, boolOf, fnOf, intOfAV, bound, resOf, retV, moved, rowOf, valAt, Kd.agg, AV.cells, splice, places, fillAV, rowsFill, Hp.none, Yac, Yad, Yae, Yaf, ↓reduceIte, reduceCtorEq, Nat.reduceLT, Nat.reduceEqDiff, Nat.reduceAdd, Nat.reduceLeDiff, Nat.reducePow, Nat.reduceMul, Yay, Yaz, Yag, Yah, Yai, Yaj, Yak, Yal, Yam, Yan, Yao, Yap, Yaq, Yar, Yas, Yat, Yau, Yav, Yaw, Yax, Ybc, Ybd, Yba, Ybb, Yzz, tyW]
      refine CallK_of call37 (getB_spec w i true (by omega) (by omega) (by simp [wtk]) rfl (by cases xs <;> simp [grN])) ?_
      rintro r h' ⟨rfl, rfl⟩
      cases hg : getW w i
      · rw [hg] at hc
        simp (disch := omega) only [Xaa, Xab, Xac, Xad, Xae, Xaf, Xag, Xah, Xai, Xaj, Xak, Xal, Xam, Xan, Xao, Xap, Xaq, Xar, Xas, Xat, Xau, Xav, Xaw, Xax, Xay, Xaz, Xba, Xbb, awl, Xbc, Xbd, Xbe, Xbf, Xbg, Xbh, Xbi, Xbj, Xbk, Xbl, Xbm, Xbn, Xbo, Xbp, Xbq, ne_eq, srcRows, awo, aggEq, eqF, litEq, andO, qwl, qwo, qOp, Xbr, Xbs, Xbt, lop, Yaa, Yab, Xbu, Xbv, Xbw, oneK, Xbx, Xby, Xbz, Xca, Xcb, Xcc, Xcd, Xce, Xcf, Xcg, Xch, stepOp, Xci, Xcj, Xck, pairO, pureOp, heapOp, entry, slotsOf, ev, evL, evP, evO, lk, up, St.put, St.drop, constAV, cellAV, cellsAV, plain, binV, intBin, strBin, guardBit, boolOf, fnOf, intOfAV, bound, resOf, retV, moved, rowOf, valAt, Kd.agg, AV.cells, splice, places, fillAV, rowsFill, Hp.none, Yac, Yad, Yae, Yaf, ↓reduceIte, reduceCtorEq, Nat.reduceLT, Nat.reduceEqDiff, Nat.reduceAdd, Nat.reduceLeDiff, Nat.reducePow, Nat.reduceMul, Yay, Yaz, Yag, Yah, Yai, Yaj, Yak, Yal, Yam, Yan, Yao, Yap, Yaq, Yar, Yas, Yat, Yau, Yav, Yaw, Yax, Ybc, Ybd, Yba, Ybb, Yzz, tyW, i64w]
        exact ⟨xs, hc.symm, St.wk.cp (St.wk_slots (by simp [lk]))⟩
      · rw [hg] at hc
        have hnil : ∀ q ∈ ([] : List (List AV)), q.length = 1 := alln
        have hone : ∀ q ∈ [[AV.lit (.int .i64 i)]], q.length = 1 := allc rfl alln
        cases xs with
        | nil =>
          have hfit : fits 1 8 := fits_of' (by decide) (by decide)
          simp (disch := omega) only [Xaa, Xab, Xac, Xad, Xae, Xaf, Xag, Xah, Xai, Xaj, Xak, Xal, Xam, Xan, Xao, Xap, Xaq, Xar, Xas, Xat, Xau, Xav, Xaw, Xax, Xay, Xaz, Xba, Xbb, awl, Xbc, Xbd, Xbe, Xbf, Xbg, Xbh, Xbi, Xbj, Xbk, Xbl, Xbm, Xbn, Xbo, Xbp, Xbq, ne_eq, srcRows, awo, aggEq, eqF, litEq, andO, qwl, qwo, qOp, Xbr, Xbs, Xbt, lop, Yaa, Yab, Xbu, Xbv, Xbw, oneK, Xbx, Xby, Xbz, Xca, Xcb, Xcc, Xcd, Xce, Xcf, Xcg, Xch, stepOp, Xci, Xcj, Xck, pairO, pureOp, heapOp, entry, slotsOf, ev, evL, evP, evO, lk, up, St.put, St.drop, constAV, cellAV, cellsAV, plain, binV, intBin, strBin, guardBit, boolOf, fnOf, intOfAV, bound, resOf, retV, moved, rowOf, valAt, Kd.agg, AV.cells, splice, places, fillAV, rowsFill, Hp.none, Yac, Yad, Yae, Yaf, ↓reduceIte, reduceCtorEq, Nat.reduceLT, Nat.reduceEqDiff, Nat.reduceAdd, Nat.reduceLeDiff, Nat.reducePow, Nat.reduceMul, Yay, Yaz, Yag, Yah, Yai, Yaj, Yak, Yal, Yam, Yan, Yao, Yap, Yaq, Yar, Yas, Yat, Yau, Yav, Yaw, Yax, Ybc, Ybd, Yba, Ybb, Yzz, tyW, i64w, grA_nil, grA_cons, grT_nil, grT_cons, grN, hfit, eq_true hnil, eq_true hone]
          exact ⟨[encI i], hc.symm, St.wk.cp (St.wk_slots (by simp [lk, grA, encI]))⟩
        | cons x l =>
          have hfit : fits (l.length + 1 + 1) 8 := fits_of' (by simp at hs; omega) (by simp at hs; omega)
          simp (disch := omega) only [Xaa, Xab, Xac, Xad, Xae, Xaf, Xag, Xah, Xai, Xaj, Xak, Xal, Xam, Xan, Xao, Xap, Xaq, Xar, Xas, Xat, Xau, Xav, Xaw, Xax, Xay, Xaz, Xba, Xbb, awl, Xbc, Xbd, Xbe, Xbf, Xbg, Xbh, Xbi, Xbj, Xbk, Xbl, Xbm, Xbn, Xbo, Xbp, Xbq, ne_eq, srcRows, awo, aggEq, eqF, litEq, andO, qwl, qwo, qOp, Xbr, Xbs, Xbt, lop, Yaa, Yab, Xbu, Xbv, Xbw, oneK, Xbx, Xby, Xbz, Xca, Xcb, Xcc, Xcd, Xce, Xcf, Xcg, Xch, stepOp, Xci, Xcj, Xck, pairO, pureOp, heapOp, entry, slotsOf, ev, evL, evP, evO, lk, up, St.put, St.drop, constAV, cellAV, cellsAV, plain, binV, intBin, strBin, guardBit, boolOf, fnOf, intOfAV, bound, resOf, retV, moved, rowOf, valAt, Kd.agg, AV.cells, splice, places, fillAV, rowsFill, Hp.none, Yac, Yad, Yae, Yaf, ↓reduceIte, reduceCtorEq, Nat.reduceLT, Nat.reduceEqDiff, Nat.reduceAdd, Nat.reduceLeDiff, Nat.reducePow, Nat.reduceMul, Yay, Yaz, Yag, Yah, Yai, Yaj, Yak, Yal, Yam, Yan, Yao, Yap, Yaq, Yar, Yas, Yat, Yau, Yav, Yaw, Yax, Ybc, Ybd, Yba, Ybb, Yzz, tyW, i64w, grA_nil, grA_cons, grT_nil, grT_cons, grN, hfit, eq_true hnil, eq_true hone]
          refine ⟨x :: l ++ [encI i], hc.symm, ?_⟩
          exact St.wk.cp (St.wk_slots (by simp [lk, grA]))
    · rintro xs hxs
      simp only [Xaa, Xab, Xac, Xad, Xae, Xaf, Xag, Xah, Xai, Xaj, Xak, Xal, Xam, Xan, Xao, Xap, Xaq, Xar, Xas, Xat, Xau, Xav, Xaw, Xax, Xay, Xaz, Xba, Xbb, awl, Xbc, Xbd, Xbe, Xbf, Xbg, Xbh, Xbi, Xbj, Xbk, Xbl, Xbm, Xbn, Xbo, Xbp, Xbq, ne_eq, srcRows, awo, aggEq, eqF, litEq, andO, qwl, qwo, qOp, Xbr, Xbs, Xbt, lop, Yaa, Yab, Xbu, Xbv, Xbw, oneK, Xbx, Xby, Xbz, Xca, Xcb, Xcc, Xcd, Xce, Xcf, Xcg, Xch, stepOp, Xci, Xcj, Xck, pairO, pureOp, heapOp, entry, slotsOf, ev, evL, evP, evO, lk, up, St.put, St.drop, constAV, cellAV, cellsAV, plain, binV, intBin, strBin, guardBit, boolOf, fnOf, intOfAV, bound, resOf, retV, moved, rowOf, valAt, Kd.agg, AV.cells, splice, places, fillAV, rowsFill, Hp.none, Yac, Yad, Yae, Yaf, ↓reduceIte, reduceCtorEq, Nat.reduceLT, Nat.reduceEqDiff, Nat.reduceAdd, Nat.reduceLeDiff, Nat.reducePow, Nat.reduceMul, Yay, Yaz, Yag, Yah, Yai, Yaj, Yak, Yal, Yam, Yan, Yao, Yap, Yaq, Yar, Yas, Yat, Yau, Yav, Yaw, Yax, Ybc, Ybd, Yba, Ybb, Yzz, tyW, wv, wtk]
      refine .intro (fun hb => absurd (of_decide_eq_true hb) (by omega)) (fun _ => ?_)
      simp only [Xaa, Xab, Xac, Xad, Xae, Xaf, Xag, Xah, Xai, Xaj, Xak, Xal, Xam, Xan, Xao, Xap, Xaq, Xar, Xas, Xat, Xau, Xav, Xaw, Xax, Xay, Xaz, Xba, Xbb, awl, Xbc, Xbd, Xbe, Xbf, Xbg, Xbh, Xbi, Xbj, Xbk, Xbl, Xbm, Xbn, Xbo, Xbp, Xbq, ne_eq, srcRows, awo, aggEq, eqF, litEq, andO, qwl, qwo, qOp, Xbr, Xbs, Xbt, lop, Yaa, Yab, Xbu, Xbv, Xbw, oneK, Xbx, Xby, Xbz, Xca, Xcb, Xcc, Xcd, Xce, Xcf, Xcg, Xch, stepOp, Xci, Xcj, Xck, pairO, pureOp, heapOp, entry, slotsOf, ev, evL, evP, evO, lk, up, St.put, St.drop, constAV, cellAV, cellsAV, plain, binV, intBin, strBin, guardBit, boolOf, fnOf, intOfAV, bound, resOf, retV, moved, rowOf, valAt, Kd.agg, AV.cells, splice, places, fillAV, rowsFill, Hp.none, Yac, Yad, Yae, Yaf, ↓reduceIte, reduceCtorEq, Nat.reduceLT, Nat.reduceEqDiff, Nat.reduceAdd, Nat.reduceLeDiff, Nat.reducePow, Nat.reduceMul, Yay, Yaz, Yag, Yah, Yai, Yaj, Yak, Yal, Yam, Yan, Yao, Yap, Yaq, Yar, Yas, Yat, Yau, Yav, Yaw, Yax, Ybc, Ybd, Yba, Ybb, Yzz, tyW]
      refine ⟨_, St.wk.cp (St.wk.refl _), ?_⟩
      simp only [Xaa, Xab, Xac, Xad, Xae, Xaf, Xag, Xah, Xai, Xaj, Xak, Xal, Xam, Xan, Xao, Xap, Xaq, Xar, Xas, Xat, Xau, Xav, Xaw, Xax, Xay, Xaz, Xba, Xbb, awl, Xbc, Xbd, Xbe, Xbf, Xbg, Xbh, Xbi, Xbj, Xbk, Xbl, Xbm, Xbn, Xbo, Xbp, Xbq, ne_eq, srcRows, awo, aggEq, eqF, litEq, andO, qwl, qwo, qOp, Xbr, Xbs, Xbt, lop, Yaa, Yab, Xbu, Xbv, Xbw, oneK, Xbx, Xby, Xbz, Xca, Xcb, Xcc, Xcd, Xce, Xcf, Xcg, Xch, stepOp, Xci, Xcj, Xck, pairO, pureOp, heapOp, entry, slotsOf, ev, evL, evP, evO, lk, up, St.put, St.drop, constAV, cellAV, cellsAV, plain, binV, intBin, strBin, guardBit, boolOf, fnOf, intOfAV, bound, resOf, retV, moved, rowOf, valAt, Kd.agg, AV.cells, splice, places, fillAV, rowsFill, Hp.none, Yac, Yad, Yae, Yaf, ↓reduceIte, reduceCtorEq, Nat.reduceLT, Nat.reduceEqDiff, Nat.reduceAdd, Nat.reduceLeDiff, Nat.reducePow, Nat.reduceMul, Yay, Yaz, Yag, Yah, Yai, Yaj, Yak, Yal, Yam, Yan, Yao, Yap, Yaq, Yar, Yas, Yat, Yau, Yav, Yaw, Yax, Ybc, Ybd, Yba, Ybb, Yzz, tyW]
      rw [hxs]
      exact ⟨rfl, rfl⟩

theorem SCall.skip {f : FuncId} {args : List AV} {B : List (Nat × List AV)} {L : List (Nat × Tk)} {n : Nat} {Q : AV → Hp → Prop} (hc : SCall Try.prog f args ⟨B, L, n + 1⟩ Q) : SCall Try.prog f args ⟨B, L, n⟩ Q :=
  hc.conv fun g w r => ⟨g.skip 1, ⟨r.skip, Ext.skip _ 1, .refl _ _, fun b l => .inl (by
    rcases l with ⟨i, cs, f1, f2⟩ | ⟨i, k1, c1, n1, f1, f2⟩
    · exact .inl ⟨i, cs, f1, f2⟩
    · exact .inr ⟨i, k1, c1, n1, f1, f2⟩), fun b o v e => .inl e⟩, cvL_refl (Ext.skip _ 1) _⟩

theorem places_q (w : Int) (n : Nat) (hn : n ≤ 60) {H : Hp} {t : Nat} (hk : lk H.toks t = some (wT w)) (ht : t < H.nx) : QCall Try.prog 22 [.own t 1, .lit (.int .i64 n)] H (.vec ((plL n w).map encI) false) := by
  have hp : ∀ x ∈ (plL n w).map encI, ∀ c ∈ x, Ab.Pure c := pure_rows pure_encI _
  have base : QCall Try.prog 22 [.own 0 1, .lit (.int .i64 n)] (wH w) (.vec ((plL n w).map encI) false) := by
    refine SCall.told (places_spec w true n hn) ?_
    rintro r h' ⟨rfl, rfl⟩
    refine ⟨_, _, ?_, rfl, rfl⟩
    cases hr : (plL n w).map encI with
    | nil => exact St.wk.cp (St.wk_conv rfl rfl (fun g1 g2 x => allc ⟨_, rfl, cv_full x _ _⟩ alln) (fun g1 g2 x => alln) (fun g1 => allc ⟨_, rfl, .refl _ _⟩ alln))
    | cons x l =>
      rw [hr] at hp
      refine St.cp.trans (St.wk.cp (St.wk_freeze (σ' := ⟨[(0, .vec (x :: l) false)], ⟨[], [(0, wT w)], 2⟩, 1⟩) (t := 1) (k := ⟨x :: l, 0, 1⟩) rfl rfl rfl (fun g1 g2 y c => allc ⟨_, rfl, c⟩ alln) (fun g1 g2 y c => alln) (fun g1 => allc ⟨_, rfl, .refl _ _⟩ alln))) ?_
      exact St.cp_of 1 [] (by show 1 ≤ 2; decide) rfl rfl List.nodup_nil (by simp) (allc ⟨_, rfl, .pure (.vec hp)⟩ alln) alln (allc ⟨by show 0 < 1; decide, _, rfl, rfl, rfl, .pure (by simp [wT, Pure.lit])⟩ alln)
  refine QCall.sub (hs := wH w) (r0 := .vec ((plL n w).map encI) false) (av := [.own 0 1, .lit (.int .i64 n)]) [t] rfl (by simp) (by simp; exact ht) (.cons (.own (by show 0 < 1; decide) rfl) (.cons (.pure (.lit _)) .nil)) alln (allc ⟨by show 0 < 1; decide, _, hk, rfl, rfl, .pure (by simp [wT, Pure.lit])⟩ alln) ?_ base (.pure (.vec hp))
  intro i hi hnn
  have hi : i < 1 := hi
  match i, hi with
  | 0, _ => simp [wH, lk] at hnn
theorem placesF_spec (w : Int) (n : Nat) (hn : n ≤ 60) : PCall Try.prog 22 [.vec [[.lit (.int .u64 w)]] false, .lit (.int .i64 n)] (.vec ((plL n w).map encI) false) := by
  refine PCall_of_SCall (SCall.skip ((places_spec w false n hn).mono ?_))
  rintro r h' ⟨rfl, rfl⟩
  exact expo_gr2 (pure_rows pure_encI _) fun h => lk_grT' h

/-! One row put into another, or into itself. -/
theorem joinD_spec (a b : Int) : SCall Try.prog 36 [.own 0 1, .own 1 1] ⟨[], (0, wT a) :: [(1, wT b)], 2⟩ (fun r h' => r = .lit (.bool (orW a b != a)) ∧ h' = ⟨[], (0, wT (orW a b)) :: [(1, wT b)], 2⟩) := by
  refine SCall_introC Try.func36 rfl Try.ntmps36 (rs := [.tmp 4]) rfl (by simp) (N := 2) rfl ?_
  simp only [Xaa, Xab, Xac, Xad, Xae, Xaf, Xag, Xah, Xai, Xaj, Xak, Xal, Xam, Xan, Xao, Xap, Xaq, Xar, Xas, Xat, Xau, Xav, Xaw, Xax, Xay, Xaz, Xba, Xbb, awl, Xbc, Xbd, Xbe, Xbf, Xbg, Xbh, Xbi, Xbj, Xbk, Xbl, Xbm, Xbn, Xbo, Xbp, Xbq, ne_eq, srcRows, awo, aggEq, eqF, litEq, andO, qwl, qwo, qOp, Xbr, Xbs, Xbt, lop, Yaa, Yab, Xbu, Xbv, Xbw, oneK, Xbx, Xby, Xbz, Xca, Xcb, Xcc, Xcd, Xce, Xcf, Xcg, Xch, stepOp, Xci, Xcj, Xck, pairO, pureOp, heapOp, entry, slotsOf, ev, evL, evP, evO, lk, up, St.put, St.drop, constAV, cellAV, cellsAV, plain, binV, intBin, strBin, guardBit, boolOf, fnOf, intOfAV, bound, resOf, retV, moved, rowOf, valAt, Kd.agg, AV.cells, splice, places, fillAV, rowsFill, Hp.none, Yac, Yad, Yae, Yaf, ↓reduceIte, reduceCtorEq, Nat.reduceLT, Nat.reduceEqDiff, Nat.reduceAdd, Nat.reduceLeDiff, Nat.reducePow, Nat.reduceMul, Yay, Yaz, Yag, Yah, Yai, Yaj, Yak, Yal, Yam, Yan, Yao, Yap, Yaq, Yar, Yas, Yat, Yau, Yav, Yaw, Yax, Ybc, Ybd, Yba, Ybb, Yzz, tyW, wT]
  have z0 : (0 : Int) < ((1 : Nat) : Int) := by decide
  have z1 : (0 : Int).toNat = 0 := rfl
  refine aw_for 1 2 (fun i (q : Bool × Int) => ⟨[(0, .own 0 1), (4, .lit (.bool q.1)), (7, .own 1 1), (8, .lit (.int .i64 1)), (9, .lit (.int .i64 i))], ⟨[], (0, wT q.2) :: [(1, wT b)], 2⟩, 37⟩) (fun i q => q = if i = 0 then (false, a) else (orW a b != a, orW a b)) (fun _ _ => rfl) (false, a) (St.wk_slots (by simp [lk])) rfl ?_ ?_
  · rintro i q hi hq
    obtain rfl : i = 0 := by omega
    simp only [if_true] at hq
    subst hq
    simp only [Xaa, Xab, Xac, Xad, Xae, Xaf, Xag, Xah, Xai, Xaj, Xak, Xal, Xam, Xan, Xao, Xap, Xaq, Xar, Xas, Xat, Xau, Xav, Xaw, Xax, Xay, Xaz, Xba, Xbb, awl, Xbc, Xbd, Xbe, Xbf, Xbg, Xbh, Xbi, Xbj, Xbk, Xbl, Xbm, Xbn, Xbo, Xbp, Xbq, ne_eq, srcRows, awo, aggEq, eqF, litEq, andO, qwl, qwo, qOp, Xbr, Xbs, Xbt, lop, Yaa, Yab, Xbu, Xbv, Xbw, oneK, Xbx, Xby, Xbz, Xca, Xcb, Xcc, Xcd, Xce, Xcf, Xcg, Xch, stepOp, Xci, Xcj, Xck, pairO, pureOp, heapOp, entry, slotsOf, ev, evL, evP, evO, lk, up, St.put, St.drop, constAV, cellAV, cellsAV, plain, binV, intBin, strBin, guardBit, boolOf, fnOf, intOfAV, bound, resOf, retV, moved, rowOf, valAt, Kd.agg, AV.cells, splice, places, fillAV, rowsFill, Hp.none, Yac, Yad, Yae, Yaf, ↓reduceIte, reduceCtorEq, Nat.reduceLT, Nat.reduceEqDiff, Nat.reduceAdd, Nat.reduceLeDiff, Nat.reducePow, Nat.reduceMul, Yay, Yaz, Yag, Yah, Yai, Yaj, Yak, Yal, Yam, Yan, Yao, Yap, Yaq, Yar, Yas, Yat, Yau, Yav, Yaw, Yax, Ybc, Ybd, Yba, Ybb, Yzz, tyW, wT]
    refine .intro (fun hb => ?_) (fun hb => ?_)
    case' refine_2 => exfalso; exact of_decide_eq_false hb (by decide)
    clear hb
    rw [Xaa, Xam, Xad]
    have z2 : ((0 : Nat) : Int) = 0 := rfl
    simp only [Xaa, Xab, Xac, Xad, Xae, Xaf, Xag, Xah, Xai, Xaj, Xak, Xal, Xam, Xan, Xao, Xap, Xaq, Xar, Xas, Xat, Xau, Xav, Xaw, Xax, Xay, Xaz, Xba, Xbb, awl, Xbc, Xbd, Xbe, Xbf, Xbg, Xbh, Xbi, Xbj, Xbk, Xbl, Xbm, Xbn, Xbo, Xbp, Xbq, ne_eq, srcRows, awo, aggEq, eqF, litEq, andO, qwl, qwo, qOp, Xbr, Xbs, Xbt, lop, Yaa, Yab, Xbu, Xbv, Xbw, oneK, Xbx, Xby, Xbz, Xca, Xcb, Xcc, Xcd, Xce, Xcf, Xcg, Xch, stepOp, Xci, Xcj, Xck, pairO, pureOp, heapOp, entry, slotsOf, ev, evL, evP, evO, lk, up, St.put, St.drop, constAV, cellAV, cellsAV, plain, binV, intBin, strBin, guardBit, boolOf, fnOf, intOfAV, bound, resOf, retV, moved, rowOf, valAt, Kd.agg, AV.cells, splice, places, fillAV, rowsFill, Hp.none, Yac, Yad, Yae, Yaf, ↓reduceIte, reduceCtorEq, Nat.reduceLT, Nat.reduceEqDiff, Nat.reduceAdd, Nat.reduceLeDiff, Nat.reducePow, Nat.reduceMul, Yay, Yaz, Yag, Yah, Yai, Yaj, Yak, Yal, Yam, Yan, Yao, Yap, Yaq, Yar, Yas, Yat, Yau, Yav, Yaw, Yax, Ybc, Ybd, Yba, Ybb, Yzz, tyW, z0, z1, z2, Int.le_refl, List.getD_cons_zero]
    refine aw_quietN (n := 37) rfl (by decide) mixed ?_
    have ho : ∀ x y : Int, IntKind.u64.wrap (BitVec.ofInt IntKind.u64.bits x ||| BitVec.ofInt IntKind.u64.bits y).toNat = orW x y := fun _ _ => rfl
    simp (disch := omega) only [Xaa, Xab, Xac, Xad, Xae, Xaf, Xag, Xah, Xai, Xaj, Xak, Xal, Xam, Xan, Xao, Xap, Xaq, Xar, Xas, Xat, Xau, Xav, Xaw, Xax, Xay, Xaz, Xba, Xbb, awl, Xbc, Xbd, Xbe, Xbf, Xbg, Xbh, Xbi, Xbj, Xbk, Xbl, Xbm, Xbn, Xbo, Xbp, Xbq, ne_eq, srcRows, awo, aggEq, eqF, litEq, andO, qwl, qwo, qOp, Xbr, Xbs, Xbt, lop, Yaa, Yab, Xbu, Xbv, Xbw, oneK, Xbx, Xby, Xbz, Xca, Xcb, Xcc, Xcd, Xce, Xcf, Xcg, Xch, stepOp, Xci, Xcj, Xck, pairO, pureOp, heapOp, entry, slotsOf, ev, evL, evP, evO, lk, up, St.put, St.drop, constAV, cellAV, cellsAV, plain, binV, intBin, strBin, guardBit, boolOf, fnOf, intOfAV, bound, resOf, retV, moved, rowOf, valAt, Kd.agg, AV.cells, splice, places, fillAV, rowsFill, Hp.none, Yac, Yad, Yae, Yaf, ↓reduceIte, reduceCtorEq, Nat.reduceLT, Nat.reduceEqDiff, Nat.reduceAdd, Nat.reduceLeDiff, Nat.reducePow, Nat.reduceMul, Yay, Yaz, Yag, Yah, Yai, Yaj, Yak, Yal, Yam, Yan, Yao, Yap, Yaq, Yar, Yas, Yat, Yau, Yav, Yaw, Yax, Ybc, Ybd, Yba, Ybb, Yzz, tyW, i64w, z0, z1, z2, Int.le_refl, List.getD_cons_zero, ho]
    exact ⟨(orW a b != a, orW a b), rfl, St.wk.cp (St.wk_slots (by simp [lk]))⟩
  · rintro q hq
    simp only [Nat.one_ne_zero, if_false] at hq
    subst hq
    have hd : decide (((1 : Nat) : Int) < 1) = false := by decide
    simp only [Xaa, Xab, Xac, Xad, Xae, Xaf, Xag, Xah, Xai, Xaj, Xak, Xal, Xam, Xan, Xao, Xap, Xaq, Xar, Xas, Xat, Xau, Xav, Xaw, Xax, Xay, Xaz, Xba, Xbb, awl, Xbc, Xbd, Xbe, Xbf, Xbg, Xbh, Xbi, Xbj, Xbk, Xbl, Xbm, Xbn, Xbo, Xbp, Xbq, ne_eq, srcRows, awo, aggEq, eqF, litEq, andO, qwl, qwo, qOp, Xbr, Xbs, Xbt, lop, Yaa, Yab, Xbu, Xbv, Xbw, oneK, Xbx, Xby, Xbz, Xca, Xcb, Xcc, Xcd, Xce, Xcf, Xcg, Xch, stepOp, Xci, Xcj, Xck, pairO, pureOp, heapOp, entry, slotsOf, ev, evL, evP, evO, lk, up, St.put, St.drop, constAV, cellAV, cellsAV, plain, binV, intBin, strBin, guardBit, boolOf, fnOf, intOfAV, bound, resOf, retV, moved, rowOf, valAt, Kd.agg, AV.cells, splice, places, fillAV, rowsFill, Hp.none, Yac, Yad, Yae, Yaf, ↓reduceIte, reduceCtorEq, Nat.reduceLT, Nat.reduceEqDiff, Nat.reduceAdd, Nat.reduceLeDiff, Nat.reducePow, Nat.reduceMul, Yay, Yaz, Yag, Yah, Yai, Yaj, Yak, Yal, Yam, Yan, Yao, Yap, Yaq, Yar, Yas, Yat, Yau, Yav, Yaw, Yax, Ybc, Ybd, Yba, Ybb, Yzz, tyW, hd]
    exact ret1 4 ⟨alln, allc ⟨by show 0 < 2; decide, .pure (by simp [wT, Pure.lit])⟩ (allc ⟨by show 1 < 2; decide, .pure (by simp [wT, Pure.lit])⟩ alln)⟩ rfl (Nat.le_refl 2) rfl (.pure (.lit _)) alln (by simp [lk, wT])
theorem joinS_spec (a b : Int) : SCall Try.prog 36 [.own 0 1, .own 0 1] ⟨[], (0, wT a) :: [], 1⟩ (fun r h' => r = .lit (.bool (orW a a != a)) ∧ h' = ⟨[], (0, wT (orW a a)) :: [], 1⟩) := by
  refine SCall_introC Try.func36 rfl Try.ntmps36 (rs := [.tmp 4]) rfl (by simp) (N := 1) rfl ?_
  simp only [Xaa, Xab, Xac, Xad, Xae, Xaf, Xag, Xah, Xai, Xaj, Xak, Xal, Xam, Xan, Xao, Xap, Xaq, Xar, Xas, Xat, Xau, Xav, Xaw, Xax, Xay, Xaz, Xba, Xbb, awl, Xbc, Xbd, Xbe, Xbf, Xbg, Xbh, Xbi, Xbj, Xbk, Xbl, Xbm, Xbn, Xbo, Xbp, Xbq, ne_eq, srcRows, awo, aggEq, eqF, litEq, andO, qwl, qwo, qOp, Xbr, Xbs, Xbt, lop, Yaa, Yab, Xbu, Xbv, Xbw, oneK, Xbx, Xby, Xbz, Xca, Xcb, Xcc, Xcd, Xce, Xcf, Xcg, Xch, stepOp, Xci, Xcj, Xck, pairO, pureOp, heapOp, entry, slotsOf, ev, evL, evP, evO, lk, up, St.put, St.drop, constAV, cellAV, cellsAV, plain, binV, intBin, strBin, guardBit, boolOf, fnOf, intOfAV, bound, resOf, retV, moved, rowOf, valAt, Kd.agg, AV.cells, splice, places, fillAV, rowsFill, Hp.none, Yac, Yad, Yae, Yaf, ↓reduceIte, reduceCtorEq, Nat.reduceLT, Nat.reduceEqDiff, Nat.reduceAdd, Nat.reduceLeDiff, Nat.reducePow, Nat.reduceMul, Yay, Yaz, Yag, Yah, Yai, Yaj, Yak, Yal, Yam, Yan, Yao, Yap, Yaq, Yar, Yas, Yat, Yau, Yav, Yaw, Yax, Ybc, Ybd, Yba, Ybb, Yzz, tyW, wT]
  have z0 : (0 : Int) < ((1 : Nat) : Int) := by decide
  have z1 : (0 : Int).toNat = 0 := rfl
  refine aw_for 1 1 (fun i (q : Bool × Int) => ⟨[(0, .own 0 1), (4, .lit (.bool q.1)), (7, .own 0 1), (8, .lit (.int .i64 1)), (9, .lit (.int .i64 i))], ⟨[], (0, wT q.2) :: [], 1⟩, 37⟩) (fun i q => q = if i = 0 then (false, a) else (orW a a != a, orW a a)) (fun _ _ => rfl) (false, a) (St.wk_slots (by simp [lk])) rfl ?_ ?_
  · rintro i q hi hq
    obtain rfl : i = 0 := by omega
    simp only [if_true] at hq
    subst hq
    simp only [Xaa, Xab, Xac, Xad, Xae, Xaf, Xag, Xah, Xai, Xaj, Xak, Xal, Xam, Xan, Xao, Xap, Xaq, Xar, Xas, Xat, Xau, Xav, Xaw, Xax, Xay, Xaz, Xba, Xbb, awl, Xbc, Xbd, Xbe, Xbf, Xbg, Xbh, Xbi, Xbj, Xbk, Xbl, Xbm, Xbn, Xbo, Xbp, Xbq, ne_eq, srcRows, awo, aggEq, eqF, litEq, andO, qwl, qwo, qOp, Xbr, Xbs, Xbt, lop, Yaa, Yab, Xbu, Xbv, Xbw, oneK, Xbx, Xby, Xbz, Xca, Xcb, Xcc, Xcd, Xce, Xcf, Xcg, Xch, stepOp, Xci, Xcj, Xck, pairO, pureOp, heapOp, entry, slotsOf, ev, evL, evP, evO, lk, up, St.put, St.drop, constAV, cellAV, cellsAV, plain, binV, intBin, strBin, guardBit, boolOf, fnOf, intOfAV, bound, resOf, retV, moved, rowOf, valAt, Kd.agg, AV.cells, splice, places, fillAV, rowsFill, Hp.none, Yac, Yad, Yae, Yaf, ↓reduceIte, reduceCtorEq, Nat.reduceLT, Nat.reduceEqDiff, Nat.reduceAdd, Nat.reduceLeDiff, Nat.reducePow, Nat.reduceMul, Yay, Yaz, Yag, Yah, Yai, Yaj, Yak, Yal, Yam, Yan, Yao, Yap, Yaq, Yar, Yas, Yat, Yau, Yav, Yaw, Yax, Ybc, Ybd, Yba, Ybb, Yzz, tyW, wT]
    refine .intro (fun hb => ?_) (fun hb => ?_)
    case' refine_2 => exfalso; exact of_decide_eq_false hb (by decide)
    clear hb
    rw [Xaa, Xam, Xad]
    have z2 : ((0 : Nat) : Int) = 0 := rfl
    simp only [Xaa, Xab, Xac, Xad, Xae, Xaf, Xag, Xah, Xai, Xaj, Xak, Xal, Xam, Xan, Xao, Xap, Xaq, Xar, Xas, Xat, Xau, Xav, Xaw, Xax, Xay, Xaz, Xba, Xbb, awl, Xbc, Xbd, Xbe, Xbf, Xbg, Xbh, Xbi, Xbj, Xbk, Xbl, Xbm, Xbn, Xbo, Xbp, Xbq, ne_eq, srcRows, awo, aggEq, eqF, litEq, andO, qwl, qwo, qOp, Xbr, Xbs, Xbt, lop, Yaa, Yab, Xbu, Xbv, Xbw, oneK, Xbx, Xby, Xbz, Xca, Xcb, Xcc, Xcd, Xce, Xcf, Xcg, Xch, stepOp, Xci, Xcj, Xck, pairO, pureOp, heapOp, entry, slotsOf, ev, evL, evP, evO, lk, up, St.put, St.drop, constAV, cellAV, cellsAV, plain, binV, intBin, strBin, guardBit, boolOf, fnOf, intOfAV, bound, resOf, retV, moved, rowOf, valAt, Kd.agg, AV.cells, splice, places, fillAV, rowsFill, Hp.none, Yac, Yad, Yae, Yaf, ↓reduceIte, reduceCtorEq, Nat.reduceLT, Nat.reduceEqDiff, Nat.reduceAdd, Nat.reduceLeDiff, Nat.reducePow, Nat.reduceMul, Yay, Yaz, Yag, Yah, Yai, Yaj, Yak, Yal, Yam, Yan, Yao, Yap, Yaq, Yar, Yas, Yat, Yau, Yav, Yaw, Yax, Ybc, Ybd, Yba, Ybb, Yzz, tyW, z0, z1, z2, Int.le_refl, List.getD_cons_zero]
    refine aw_quietN (n := 37) rfl (by decide) mixed ?_
    have ho : ∀ x y : Int, IntKind.u64.wrap (BitVec.ofInt IntKind.u64.bits x ||| BitVec.ofInt IntKind.u64.bits y).toNat = orW x y := fun _ _ => rfl
    simp (disch := omega) only [Xaa, Xab, Xac, Xad, Xae, Xaf, Xag, Xah, Xai, Xaj, Xak, Xal, Xam, Xan, Xao, Xap, Xaq, Xar, Xas, Xat, Xau, Xav, Xaw, Xax, Xay, Xaz, Xba, Xbb, awl, Xbc, Xbd, Xbe, Xbf, Xbg, Xbh, Xbi, Xbj, Xbk, Xbl, Xbm, Xbn, Xbo, Xbp, Xbq, ne_eq, srcRows, awo, aggEq, eqF, litEq, andO, qwl, qwo, qOp, Xbr, Xbs, Xbt, lop, Yaa, Yab, Xbu, Xbv, Xbw, oneK, Xbx, Xby, Xbz, Xca, Xcb, Xcc, Xcd, Xce, Xcf, Xcg, Xch, stepOp, Xci, Xcj, Xck, pairO, pureOp, heapOp, entry, slotsOf, ev, evL, evP, evO, lk, up, St.put, St.drop, constAV, cellAV, cellsAV, plain, binV, intBin, strBin, guardBit, boolOf, fnOf, intOfAV, bound, resOf, retV, moved, rowOf, valAt, Kd.agg, AV.cells, splice, places, fillAV, rowsFill, Hp.none, Yac, Yad, Yae, Yaf, ↓reduceIte, reduceCtorEq, Nat.reduceLT, Nat.reduceEqDiff, Nat.reduceAdd, Nat.reduceLeDiff, Nat.reducePow, Nat.reduceMul, Yay, Yaz, Yag, Yah, Yai, Yaj, Yak, Yal, Yam, Yan, Yao, Yap, Yaq, Yar, Yas, Yat, Yau, Yav, Yaw, Yax, Ybc, Ybd, Yba, Ybb, Yzz, tyW, i64w, z0, z1, z2, Int.le_refl, List.getD_cons_zero, ho]
    exact ⟨(orW a a != a, orW a a), rfl, St.wk.cp (St.wk_slots (by simp [lk]))⟩
  · rintro q hq
    simp only [Nat.one_ne_zero, if_false] at hq
    subst hq
    have hd : decide (((1 : Nat) : Int) < 1) = false := by decide
    simp only [Xaa, Xab, Xac, Xad, Xae, Xaf, Xag, Xah, Xai, Xaj, Xak, Xal, Xam, Xan, Xao, Xap, Xaq, Xar, Xas, Xat, Xau, Xav, Xaw, Xax, Xay, Xaz, Xba, Xbb, awl, Xbc, Xbd, Xbe, Xbf, Xbg, Xbh, Xbi, Xbj, Xbk, Xbl, Xbm, Xbn, Xbo, Xbp, Xbq, ne_eq, srcRows, awo, aggEq, eqF, litEq, andO, qwl, qwo, qOp, Xbr, Xbs, Xbt, lop, Yaa, Yab, Xbu, Xbv, Xbw, oneK, Xbx, Xby, Xbz, Xca, Xcb, Xcc, Xcd, Xce, Xcf, Xcg, Xch, stepOp, Xci, Xcj, Xck, pairO, pureOp, heapOp, entry, slotsOf, ev, evL, evP, evO, lk, up, St.put, St.drop, constAV, cellAV, cellsAV, plain, binV, intBin, strBin, guardBit, boolOf, fnOf, intOfAV, bound, resOf, retV, moved, rowOf, valAt, Kd.agg, AV.cells, splice, places, fillAV, rowsFill, Hp.none, Yac, Yad, Yae, Yaf, ↓reduceIte, reduceCtorEq, Nat.reduceLT, Nat.reduceEqDiff, Nat.reduceAdd, Nat.reduceLeDiff, Nat.reducePow, Nat.reduceMul, Yay, Yaz, Yag, Yah, Yai, Yaj, Yak, Yal, Yam, Yan, Yao, Yap, Yaq, Yar, Yas, Yat, Yau, Yav, Yaw, Yax, Ybc, Ybd, Yba, Ybb, Yzz, tyW, hd]
    exact ret1 4 ⟨alln, allc ⟨by show 0 < 1; decide, .pure (by simp [wT, Pure.lit])⟩ alln⟩ rfl (Nat.le_refl 1) rfl (.pure (.lit _)) alln (by simp [lk, wT])

theorem joinD_at {a b : Int} {H : Hp} {t u : Nat} (hne : t ≠ u) (h1 : lk H.toks t = some (wT a)) (h2 : lk H.toks u = some (wT b)) (ht : t < H.nx) (hu : u < H.nx) :
    SCall Try.prog 36 [.own t 1, .own u 1] H fun r h' => r = .lit (.bool (orW a b != a)) ∧ h' = ⟨H.boxes, up H.toks t (wT (orW a b)), H.nx⟩ := by
  have hle : ∀ i, i < 2 → i < [t, u].length := fun i hi => hi
  refine SCall.sub (hs := ⟨[], (0, wT a) :: [(1, wT b)], 2⟩) (rho [t, u]) (fun i j hi hj q => rho_inj (by simp; exact hne) i j (hle i hi) (hle j hj) q) (fun i hi => rho_lt (by simp; exact ⟨ht, hu⟩) i (hle i hi))
    (.cons (.own (by show 0 < 2; decide) rfl) (.cons (.own (by show 1 < 2; decide) rfl) .nil)) alln (allc ⟨by show 0 < 2; decide, _, h1, rfl, rfl, .pure (by simp [wT, Pure.lit])⟩ (allc ⟨by show 1 < 2; decide, _, h2, rfl, rfl, .pure (by simp [wT, Pure.lit])⟩ alln)) (joinD_spec a b) ?_
  rintro r' h' ⟨rfl, rfl⟩ _
  refine ⟨_, ⟨H.boxes, up H.toks t (wT (orW a b)), H.nx⟩, 0, Nat.le_refl _, rfl, .pure (.lit _), fun i cs' e' => .inr ⟨e', fun j c hj => by cases hj⟩, fun id k' e' => ?_, rfl, rfl⟩
  have e' : lk (up H.toks t (wT (orW a b))) id = some k' := e'
  rw [lk_up] at e'
  by_cases hid : t = id
  · subst hid
    simp only [if_true, h1, Option.map_some, Option.some.injEq] at e'
    subst e'
    exact .inl ⟨0, _, by show 0 < 2; decide, by simp only [ren]; rfl, rfl, rfl, rfl, .pure (by simp [wT, Pure.lit])⟩
  · rw [if_neg hid] at e'
    by_cases hid2 : u = id
    · subst hid2
      rw [h2] at e'
      cases e'
      exact .inl ⟨1, _, by show 1 < 2; decide, by simp only [ren]; rfl, rfl, rfl, rfl, .pure (by simp [wT, Pure.lit])⟩
    · refine .inr ⟨e', fun i hi q => ?_⟩
      match i, hle i hi, q with
      | 0, _, q => exact hid q
      | 1, _, q => exact hid2 q
theorem joinS_at {a : Int} {H : Hp} {t : Nat} (h1 : lk H.toks t = some (wT a)) (ht : t < H.nx) :
    SCall Try.prog 36 [.own t 1, .own t 1] H fun r h' => r = .lit (.bool (orW a a != a)) ∧ h' = ⟨H.boxes, up H.toks t (wT (orW a a)), H.nx⟩ := by
  have hle : ∀ i, i < 1 → i < [t].length := fun i hi => hi
  refine SCall.sub (hs := ⟨[], (0, wT a) :: [], 1⟩) (rho [t]) (fun i j hi hj q => rho_inj (by simp) i j (hle i hi) (hle j hj) q) (fun i hi => rho_lt (by simp; exact ht) i (hle i hi))
    (.cons (.own (by show 0 < 1; decide) rfl) (.cons (.own (by show 0 < 1; decide) rfl) .nil)) alln (allc ⟨by show 0 < 1; decide, _, h1, rfl, rfl, .pure (by simp [wT, Pure.lit])⟩ alln) (joinS_spec a 0) ?_
  rintro r' h' ⟨rfl, rfl⟩ _
  refine ⟨_, ⟨H.boxes, up H.toks t (wT (orW a a)), H.nx⟩, 0, Nat.le_refl _, rfl, .pure (.lit _), fun i cs' e' => .inr ⟨e', fun j c hj => by cases hj⟩, fun id k' e' => ?_, rfl, rfl⟩
  have e' : lk (up H.toks t (wT (orW a a))) id = some k' := e'
  rw [lk_up] at e'
  by_cases hid : t = id
  · subst hid
    simp only [if_true, h1, Option.map_some, Option.some.injEq] at e'
    subst e'
    exact .inl ⟨0, _, by show 0 < 1; decide, by simp only [ren]; rfl, rfl, rfl, rfl, .pure (by simp [wT, Pure.lit])⟩
  · rw [if_neg hid] at e'
    refine .inr ⟨e', fun i hi q => ?_⟩
    match i, hle i hi, q with
    | 0, _, q => exact hid q
theorem join_at {a b : Int} {H : Hp} {t u : Nat} (h1 : lk H.toks t = some (wT a)) (h2 : lk H.toks u = some (wT b)) (ht : t < H.nx) (hu : u < H.nx) :
    SCall Try.prog 36 [.own t 1, .own u 1] H fun r h' => r = .lit (.bool (orW a b != a)) ∧ h' = ⟨H.boxes, up H.toks t (wT (orW a b)), H.nx⟩ := by
  by_cases h : t = u
  · subst h
    have : a = b := by
      rw [h1] at h2
      simp only [wT, Option.some.injEq, Tk.mk.injEq, List.cons.injEq, AV.lit.injEq, Value.int.injEq, and_true, true_and] at h2
      exact h2
    subst this
    exact joinS_at h1 ht
  · exact joinD_at h h1 h2 ht hu
end Go.Proofs.Ytogdlomemaoajaa
