/- slices.IndexFunc, slices.ContainsFunc over the program's rows, with any function that only reads. Conditions: those that each theorem names. -/
import Derived.Test.YtogdlomemaoajaaApi
namespace Go.Proofs.Ytogdlomemaoajaa
open Go.Ab
set_option linter.unusedSimpArgs false
set_option linter.unusedVariables false
set_option maxRecDepth 20000

structure Br where
  alt : Int
  level : Int
  e : El
def encB : Br → List AV
  | ⟨alt, lv, .mk op name set lz (.mk gop gn gname gkids) kids level place⟩ => [.lit (.int .i64 alt), .lit (.int .i64 lv), .lit (.int .i8 op), .lit (.string name), .vec (set.map encR) false, .lit (.bool lz), .lit (.int .i8 gop), .lit (.int .i64 gn), .lit (.string gname), .vec (encGs gkids) false, .vec (encEs kids) false, .lit (.int .i64 level), .lit (.int .i64 place)]
theorem encB_eq (b : Br) : encB b = [.lit (.int .i64 b.alt), .lit (.int .i64 b.level)] ++ encE b.e := by rcases b with ⟨p, q, ⟨a, b, c, d, ⟨x, y, z, u⟩, f, g, h⟩⟩; rfl
theorem encB_length (b : Br) : (encB b).length = 13 := by rw [encB_eq]; simp [encE_length]
theorem encB_take (b : Br) : (encB b).take 13 = encB b := List.take_of_length_le (by rw [encB_length]; exact Nat.le_refl _)
theorem pure_encB (b : Br) : ∀ c ∈ encB b, Pure c := by
  rw [encB_eq]
  intro c hc
  simp only [List.cons_append, List.nil_append, List.mem_cons] at hc
  rcases hc with rfl | rfl | h
  · exact .lit _
  · exact .lit _
  · exact pure_encE _ c h

theorem index_Elem (l : List El) (p : El → Bool) (hs : l.length ≤ 1000000000) (fn : Nat) (first cap : List AV) (h : Hp) (hc : Callable Try.prog fn) (hp : ∀ t ∈ l, QCall Try.prog fn (first ++ [.agg (encE t)] ++ cap) h (.lit (.bool (p t)))) :
    QCall Try.prog 41 [.vec (l.map encE) false, .fn (.func fn) first cap] h (.lit (.int .i64 (if l.any p then ((l.findIdx p : Nat) : Int) else -1))) := by
  refine SCall_intro Try.func41 rfl Try.ntmps41 (rs := [.tmp 4]) rfl (by simp) ?_
  simp only [Xaa, Xab, Xac, Xad, Xae, Xaf, Xag, Xah, Xai, Xaj, Xak, Xal, Xam, Xan, Xao, Xap, Xaq, Xar, Xas, Xat, Xau, Xav, Xaw, Xax, Xay, Xaz, Xba, Xbb, awl, Xbc, Xbd, Xbe, Xbf, Xbg, Xbh, Xbi, Xbj, Xbk, Xbl, Xbm, Xbn, Xbo, Xbp, Xbq, ne_eq, srcRows, awo, aggEq, eqF, litEq, andO, qwl, qwo, qOp, Xbr, Xbs, Xbt, lop, Yaa, Yab, Xbu, Xbv, Xbw, oneK, Xbx, Xby, Xbz, Xca, Xcb, Xcc, Xcd, Xce, Xcf, Xcg, Xch, stepOp, Xci, Xcj, Xck, pairO, pureOp, heapOp, entry, slotsOf, ev, evL, evP, evO, lk, up, St.put, St.drop, constAV, cellAV, cellsAV, plain, binV, intBin, strBin, guardBit, boolOf, fnOf, intOfAV, bound, resOf, retV, moved, rowOf, valAt, Kd.agg, AV.cells, splice, places, fillAV, rowsFill, Hp.none, Yac, Yad, Yae, Yaf, ↓reduceIte, reduceCtorEq, Nat.reduceLT, Nat.reduceEqDiff, Nat.reduceAdd, Nat.reduceLeDiff, Nat.reducePow, Nat.reduceMul, Yay, Yaz, Yag, Yah, Yai, Yaj, Yak, Yal, Yam, Yan, Yao, Yap, Yaq, Yar, Yas, Yat, Yau, Yav, Yaw, Yax, Ybc, Ybd, Yba, Ybb, Yzz, tyW, List.length_map]
  refine aw_loop (fun n σ => ∃ i, i ≤ l.length ∧ n = l.length - i ∧ (∀ j x, j < i → l[j]? = some x → p x = false) ∧ σ = ⟨[(0, .vec (l.map encE) false), (1, .fn (.func fn) first cap), (7, .lit (.int .i64 l.length)), (8, .lit (.int .i64 i))], h, 19⟩)
    (σ' := ⟨[(0, .vec (l.map encE) false), (1, .fn (.func fn) first cap), (7, .lit (.int .i64 l.length)), (8, .lit (.int .i64 0))], h, 19⟩) (St.wk_slots (by simp [lk])) l.length ⟨0, by simp, by simp, by simp, by simp⟩ ?_
  rintro n σ ⟨i, hi, rfl, hno, rfl⟩
  simp only [Xaa, Xab, Xac, Xad, Xae, Xaf, Xag, Xah, Xai, Xaj, Xak, Xal, Xam, Xan, Xao, Xap, Xaq, Xar, Xas, Xat, Xau, Xav, Xaw, Xax, Xay, Xaz, Xba, Xbb, awl, Xbc, Xbd, Xbe, Xbf, Xbg, Xbh, Xbi, Xbj, Xbk, Xbl, Xbm, Xbn, Xbo, Xbp, Xbq, ne_eq, srcRows, awo, aggEq, eqF, litEq, andO, qwl, qwo, qOp, Xbr, Xbs, Xbt, lop, Yaa, Yab, Xbu, Xbv, Xbw, oneK, Xbx, Xby, Xbz, Xca, Xcb, Xcc, Xcd, Xce, Xcf, Xcg, Xch, stepOp, Xci, Xcj, Xck, pairO, pureOp, heapOp, entry, slotsOf, ev, evL, evP, evO, lk, up, St.put, St.drop, constAV, cellAV, cellsAV, plain, binV, intBin, strBin, guardBit, boolOf, fnOf, intOfAV, bound, resOf, retV, moved, rowOf, valAt, Kd.agg, AV.cells, splice, places, fillAV, rowsFill, Hp.none, Yac, Yad, Yae, Yaf, ↓reduceIte, reduceCtorEq, Nat.reduceLT, Nat.reduceEqDiff, Nat.reduceAdd, Nat.reduceLeDiff, Nat.reducePow, Nat.reduceMul, Yay, Yaz, Yag, Yah, Yai, Yaj, Yak, Yal, Yam, Yan, Yao, Yap, Yaq, Yar, Yas, Yat, Yau, Yav, Yaw, Yax, Ybc, Ybd, Yba, Ybb, Yzz, tyW, List.length_map]
  refine .intro (fun hb => ?_) (fun hb => ?_)
  · have hlt : i < l.length := by have := of_decide_eq_true hb; omega
    have hx := List.getElem?_eq_getElem hlt
    generalize l[i] = x at hx
    have g1 := map_getD encE hx
    have hm : x ∈ l := List.mem_of_getElem? hx
    have hnn : (0 : Int) ≤ (i : Int) := Int.natCast_nonneg i
    have hi1 : (i : Int) < (l.length : Int) := by omega
    have hl7 := encE_length x
    simp only [Xaa, Xab, Xac, Xad, Xae, Xaf, Xag, Xah, Xai, Xaj, Xak, Xal, Xam, Xan, Xao, Xap, Xaq, Xar, Xas, Xat, Xau, Xav, Xaw, Xax, Xay, Xaz, Xba, Xbb, awl, Xbc, Xbd, Xbe, Xbf, Xbg, Xbh, Xbi, Xbj, Xbk, Xbl, Xbm, Xbn, Xbo, Xbp, Xbq, ne_eq, srcRows, awo, aggEq, eqF, litEq, andO, qwl, qwo, qOp, Xbr, Xbs, Xbt, lop, Yaa, Yab, Xbu, Xbv, Xbw, oneK, Xbx, Xby, Xbz, Xca, Xcb, Xcc, Xcd, Xce, Xcf, Xcg, Xch, stepOp, Xci, Xcj, Xck, pairO, pureOp, heapOp, entry, slotsOf, ev, evL, evP, evO, lk, up, St.put, St.drop, constAV, cellAV, cellsAV, plain, binV, intBin, strBin, guardBit, boolOf, fnOf, intOfAV, bound, resOf, retV, moved, rowOf, valAt, Kd.agg, AV.cells, splice, places, fillAV, rowsFill, Hp.none, Yac, Yad, Yae, Yaf, ↓reduceIte, reduceCtorEq, Nat.reduceLT, Nat.reduceEqDiff, Nat.reduceAdd, Nat.reduceLeDiff, Nat.reducePow, Nat.reduceMul, Yay, Yaz, Yag, Yah, Yai, Yaj, Yak, Yal, Yam, Yan, Yao, Yap, Yaq, Yar, Yas, Yat, Yau, Yav, Yaw, Yax, Ybc, Ybd, Yba, Ybb, Yzz, tyW, List.length_map, Int.toNat_natCast, g1, hnn, hi1, hl7, encE_take]
    refine CallK_of hc (hp x hm) ?_
    rintro r h' ⟨rfl, rfl⟩
    simp only [Xaa, Xab, Xac, Xad, Xae, Xaf, Xag, Xah, Xai, Xaj, Xak, Xal, Xam, Xan, Xao, Xap, Xaq, Xar, Xas, Xat, Xau, Xav, Xaw, Xax, Xay, Xaz, Xba, Xbb, awl, Xbc, Xbd, Xbe, Xbf, Xbg, Xbh, Xbi, Xbj, Xbk, Xbl, Xbm, Xbn, Xbo, Xbp, Xbq, ne_eq, srcRows, awo, aggEq, eqF, litEq, andO, qwl, qwo, qOp, Xbr, Xbs, Xbt, lop, Yaa, Yab, Xbu, Xbv, Xbw, oneK, Xbx, Xby, Xbz, Xca, Xcb, Xcc, Xcd, Xce, Xcf, Xcg, Xch, stepOp, Xci, Xcj, Xck, pairO, pureOp, heapOp, entry, slotsOf, ev, evL, evP, evO, lk, up, St.put, St.drop, constAV, cellAV, cellsAV, plain, binV, intBin, strBin, guardBit, boolOf, fnOf, intOfAV, bound, resOf, retV, moved, rowOf, valAt, Kd.agg, AV.cells, splice, places, fillAV, rowsFill, Hp.none, Yac, Yad, Yae, Yaf, ↓reduceIte, reduceCtorEq, Nat.reduceLT, Nat.reduceEqDiff, Nat.reduceAdd, Nat.reduceLeDiff, Nat.reducePow, Nat.reduceMul, Yay, Yaz, Yag, Yah, Yai, Yaj, Yak, Yal, Yam, Yan, Yao, Yap, Yaq, Yar, Yas, Yat, Yau, Yav, Yaw, Yax, Ybc, Ybd, Yba, Ybb, Yzz, tyW]
    refine .intro (fun h => ?_) (fun h => ?_)
    · simp only [Xaa, Xab, Xac, Xad, Xae, Xaf, Xag, Xah, Xai, Xaj, Xak, Xal, Xam, Xan, Xao, Xap, Xaq, Xar, Xas, Xat, Xau, Xav, Xaw, Xax, Xay, Xaz, Xba, Xbb, awl, Xbc, Xbd, Xbe, Xbf, Xbg, Xbh, Xbi, Xbj, Xbk, Xbl, Xbm, Xbn, Xbo, Xbp, Xbq, ne_eq, srcRows, awo, aggEq, eqF, litEq, andO, qwl, qwo, qOp, Xbr, Xbs, Xbt, lop, Yaa, Yab, Xbu, Xbv, Xbw, oneK, Xbx, Xby, Xbz, Xca, Xcb, Xcc, Xcd, Xce, Xcf, Xcg, Xch, stepOp, Xci, Xcj, Xck, pairO, pureOp, heapOp, entry, slotsOf, ev, evL, evP, evO, lk, up, St.put, St.drop, constAV, cellAV, cellsAV, plain, binV, intBin, strBin, guardBit, boolOf, fnOf, intOfAV, bound, resOf, retV, moved, rowOf, valAt, Kd.agg, AV.cells, splice, places, fillAV, rowsFill, Hp.none, Yac, Yad, Yae, Yaf, ↓reduceIte, reduceCtorEq, Nat.reduceLT, Nat.reduceEqDiff, Nat.reduceAdd, Nat.reduceLeDiff, Nat.reducePow, Nat.reduceMul, Yay, Yaz, Yag, Yah, Yai, Yaj, Yak, Yal, Yam, Yan, Yao, Yap, Yaq, Yar, Yas, Yat, Yau, Yav, Yaw, Yax, Ybc, Ybd, Yba, Ybb, Yzz, tyW]
      have : (l.any p) = true := List.any_eq_true.2 ⟨x, hm, h⟩
      have hidx : l.findIdx p = i := by
        rw [List.findIdx_eq hlt]
        rw [List.getElem?_eq_getElem hlt] at hx; cases hx
        refine ⟨h, fun j hj => hno j l[j] hj (List.getElem?_eq_getElem (by omega))⟩
      rw [if_pos this, hidx]
    · simp (disch := omega) only [Xaa, Xab, Xac, Xad, Xae, Xaf, Xag, Xah, Xai, Xaj, Xak, Xal, Xam, Xan, Xao, Xap, Xaq, Xar, Xas, Xat, Xau, Xav, Xaw, Xax, Xay, Xaz, Xba, Xbb, awl, Xbc, Xbd, Xbe, Xbf, Xbg, Xbh, Xbi, Xbj, Xbk, Xbl, Xbm, Xbn, Xbo, Xbp, Xbq, ne_eq, srcRows, awo, aggEq, eqF, litEq, andO, qwl, qwo, qOp, Xbr, Xbs, Xbt, lop, Yaa, Yab, Xbu, Xbv, Xbw, oneK, Xbx, Xby, Xbz, Xca, Xcb, Xcc, Xcd, Xce, Xcf, Xcg, Xch, stepOp, Xci, Xcj, Xck, pairO, pureOp, heapOp, entry, slotsOf, ev, evL, evP, evO, lk, up, St.put, St.drop, constAV, cellAV, cellsAV, plain, binV, intBin, strBin, guardBit, boolOf, fnOf, intOfAV, bound, resOf, retV, moved, rowOf, valAt, Kd.agg, AV.cells, splice, places, fillAV, rowsFill, Hp.none, Yac, Yad, Yae, Yaf, ↓reduceIte, reduceCtorEq, Nat.reduceLT, Nat.reduceEqDiff, Nat.reduceAdd, Nat.reduceLeDiff, Nat.reducePow, Nat.reduceMul, Yay, Yaz, Yag, Yah, Yai, Yaj, Yak, Yal, Yam, Yan, Yao, Yap, Yaq, Yar, Yas, Yat, Yau, Yav, Yaw, Yax, Ybc, Ybd, Yba, Ybb, Yzz, tyW, i64w]
      refine ⟨_, l.length - (i + 1), St.wk_slots (by simp [lk]), by omega, i + 1, by omega, rfl, ?_, rfl⟩
      intro j y hj h1
      rcases Nat.lt_succ_iff_lt_or_eq.1 hj with hj | rfl
      · exact hno j y hj h1
      · rw [hx] at h1; cases h1; exact h
  · have hge : i = l.length := by simp at hb; omega
    subst hge
    simp only [Xaa, Xab, Xac, Xad, Xae, Xaf, Xag, Xah, Xai, Xaj, Xak, Xal, Xam, Xan, Xao, Xap, Xaq, Xar, Xas, Xat, Xau, Xav, Xaw, Xax, Xay, Xaz, Xba, Xbb, awl, Xbc, Xbd, Xbe, Xbf, Xbg, Xbh, Xbi, Xbj, Xbk, Xbl, Xbm, Xbn, Xbo, Xbp, Xbq, ne_eq, srcRows, awo, aggEq, eqF, litEq, andO, qwl, qwo, qOp, Xbr, Xbs, Xbt, lop, Yaa, Yab, Xbu, Xbv, Xbw, oneK, Xbx, Xby, Xbz, Xca, Xcb, Xcc, Xcd, Xce, Xcf, Xcg, Xch, stepOp, Xci, Xcj, Xck, pairO, pureOp, heapOp, entry, slotsOf, ev, evL, evP, evO, lk, up, St.put, St.drop, constAV, cellAV, cellsAV, plain, binV, intBin, strBin, guardBit, boolOf, fnOf, intOfAV, bound, resOf, retV, moved, rowOf, valAt, Kd.agg, AV.cells, splice, places, fillAV, rowsFill, Hp.none, Yac, Yad, Yae, Yaf, ↓reduceIte, reduceCtorEq, Nat.reduceLT, Nat.reduceEqDiff, Nat.reduceAdd, Nat.reduceLeDiff, Nat.reducePow, Nat.reduceMul, Yay, Yaz, Yag, Yah, Yai, Yaj, Yak, Yal, Yam, Yan, Yao, Yap, Yaq, Yar, Yas, Yat, Yau, Yav, Yaw, Yax, Ybc, Ybd, Yba, Ybb, Yzz, tyW]
    have : (l.any p) = false := by
      rw [List.any_eq_false]
      intro x hx
      obtain ⟨j, hj⟩ := List.getElem?_of_mem hx
      have := hno j x (List.getElem?_eq_some_iff.1 hj).1 hj
      simp [this]
    simp [this]
theorem index_Alt (l : List Al) (p : Al → Bool) (hs : l.length ≤ 1000000000) (fn : Nat) (first cap : List AV) (h : Hp) (hc : Callable Try.prog fn) (hp : ∀ t ∈ l, QCall Try.prog fn (first ++ [.agg (encA t)] ++ cap) h (.lit (.bool (p t)))) :
    QCall Try.prog 40 [.vec (l.map encA) false, .fn (.func fn) first cap] h (.lit (.int .i64 (if l.any p then ((l.findIdx p : Nat) : Int) else -1))) := by
  refine SCall_intro Try.func40 rfl Try.ntmps40 (rs := [.tmp 4]) rfl (by simp) ?_
  simp only [Xaa, Xab, Xac, Xad, Xae, Xaf, Xag, Xah, Xai, Xaj, Xak, Xal, Xam, Xan, Xao, Xap, Xaq, Xar, Xas, Xat, Xau, Xav, Xaw, Xax, Xay, Xaz, Xba, Xbb, awl, Xbc, Xbd, Xbe, Xbf, Xbg, Xbh, Xbi, Xbj, Xbk, Xbl, Xbm, Xbn, Xbo, Xbp, Xbq, ne_eq, srcRows, awo, aggEq, eqF, litEq, andO, qwl, qwo, qOp, Xbr, Xbs, Xbt, lop, Yaa, Yab, Xbu, Xbv, Xbw, oneK, Xbx, Xby, Xbz, Xca, Xcb, Xcc, Xcd, Xce, Xcf, Xcg, Xch, stepOp, Xci, Xcj, Xck, pairO, pureOp, heapOp, entry, slotsOf, ev, evL, evP, evO, lk, up, St.put, St.drop, constAV, cellAV, cellsAV, plain, binV, intBin, strBin, guardBit, boolOf, fnOf, intOfAV, bound, resOf, retV, moved, rowOf, valAt, Kd.agg, AV.cells, splice, places, fillAV, rowsFill, Hp.none, Yac, Yad, Yae, Yaf, ↓reduceIte, reduceCtorEq, Nat.reduceLT, Nat.reduceEqDiff, Nat.reduceAdd, Nat.reduceLeDiff, Nat.reducePow, Nat.reduceMul, Yay, Yaz, Yag, Yah, Yai, Yaj, Yak, Yal, Yam, Yan, Yao, Yap, Yaq, Yar, Yas, Yat, Yau, Yav, Yaw, Yax, Ybc, Ybd, Yba, Ybb, Yzz, tyW, List.length_map]
  refine aw_loop (fun n σ => ∃ i, i ≤ l.length ∧ n = l.length - i ∧ (∀ j x, j < i → l[j]? = some x → p x = false) ∧ σ = ⟨[(0, .vec (l.map encA) false), (1, .fn (.func fn) first cap), (7, .lit (.int .i64 l.length)), (8, .lit (.int .i64 i))], h, 19⟩)
    (σ' := ⟨[(0, .vec (l.map encA) false), (1, .fn (.func fn) first cap), (7, .lit (.int .i64 l.length)), (8, .lit (.int .i64 0))], h, 19⟩) (St.wk_slots (by simp [lk])) l.length ⟨0, by simp, by simp, by simp, by simp⟩ ?_
  rintro n σ ⟨i, hi, rfl, hno, rfl⟩
  simp only [Xaa, Xab, Xac, Xad, Xae, Xaf, Xag, Xah, Xai, Xaj, Xak, Xal, Xam, Xan, Xao, Xap, Xaq, Xar, Xas, Xat, Xau, Xav, Xaw, Xax, Xay, Xaz, Xba, Xbb, awl, Xbc, Xbd, Xbe, Xbf, Xbg, Xbh, Xbi, Xbj, Xbk, Xbl, Xbm, Xbn, Xbo, Xbp, Xbq, ne_eq, srcRows, awo, aggEq, eqF, litEq, andO, qwl, qwo, qOp, Xbr, Xbs, Xbt, lop, Yaa, Yab, Xbu, Xbv, Xbw, oneK, Xbx, Xby, Xbz, Xca, Xcb, Xcc, Xcd, Xce, Xcf, Xcg, Xch, stepOp, Xci, Xcj, Xck, pairO, pureOp, heapOp, entry, slotsOf, ev, evL, evP, evO, lk, up, St.put, St.drop, constAV, cellAV, cellsAV, plain, binV, intBin, strBin, guardBit, boolOf, fnOf, intOfAV, bound, resOf, retV, moved, rowOf, valAt, Kd.agg, AV.cells, splice, places, fillAV, rowsFill, Hp.none, Yac, Yad, Yae, Yaf, ↓reduceIte, reduceCtorEq, Nat.reduceLT, Nat.reduceEqDiff, Nat.reduceAdd, Nat.reduceLeDiff, Nat.reducePow, Nat.reduceMul, Yay, Yaz, Yag, Yah, Yai, Yaj, Yak, Yal, Yam, Yan, Yao, Yap, Yaq, Yar, Yas, Yat, Yau, Yav, Yaw, Yax, Ybc, Ybd, Yba, Ybb, Yzz, tyW, List.length_map]
  refine .intro (fun hb => ?_) (fun hb => ?_)
  · have hlt : i < l.length := by have := of_decide_eq_true hb; omega
    have hx := List.getElem?_eq_getElem hlt
    generalize l[i] = x at hx
    have g1 := map_getD encA hx
    have hm : x ∈ l := List.mem_of_getElem? hx
    have hnn : (0 : Int) ≤ (i : Int) := Int.natCast_nonneg i
    have hi1 : (i : Int) < (l.length : Int) := by omega
    have hl7 := encA_length x
    simp only [Xaa, Xab, Xac, Xad, Xae, Xaf, Xag, Xah, Xai, Xaj, Xak, Xal, Xam, Xan, Xao, Xap, Xaq, Xar, Xas, Xat, Xau, Xav, Xaw, Xax, Xay, Xaz, Xba, Xbb, awl, Xbc, Xbd, Xbe, Xbf, Xbg, Xbh, Xbi, Xbj, Xbk, Xbl, Xbm, Xbn, Xbo, Xbp, Xbq, ne_eq, srcRows, awo, aggEq, eqF, litEq, andO, qwl, qwo, qOp, Xbr, Xbs, Xbt, lop, Yaa, Yab, Xbu, Xbv, Xbw, oneK, Xbx, Xby, Xbz, Xca, Xcb, Xcc, Xcd, Xce, Xcf, Xcg, Xch, stepOp, Xci, Xcj, Xck, pairO, pureOp, heapOp, entry, slotsOf, ev, evL, evP, evO, lk, up, St.put, St.drop, constAV, cellAV, cellsAV, plain, binV, intBin, strBin, guardBit, boolOf, fnOf, intOfAV, bound, resOf, retV, moved, rowOf, valAt, Kd.agg, AV.cells, splice, places, fillAV, rowsFill, Hp.none, Yac, Yad, Yae, Yaf, ↓reduceIte, reduceCtorEq, Nat.reduceLT, Nat.reduceEqDiff, Nat.reduceAdd, Nat.reduceLeDiff, Nat.reducePow, Nat.reduceMul, Yay, Yaz, Yag, Yah, Yai, Yaj, Yak, Yal, Yam, Yan, Yao, Yap, Yaq, Yar, Yas, Yat, Yau, Yav, Yaw, Yax, Ybc, Ybd, Yba, Ybb, Yzz, tyW, List.length_map, Int.toNat_natCast, g1, hnn, hi1, hl7, encA_take]
    refine CallK_of hc (hp x hm) ?_
    rintro r h' ⟨rfl, rfl⟩
    simp only [Xaa, Xab, Xac, Xad, Xae, Xaf, Xag, Xah, Xai, Xaj, Xak, Xal, Xam, Xan, Xao, Xap, Xaq, Xar, Xas, Xat, Xau, Xav, Xaw, Xax, Xay, Xaz, Xba, Xbb, awl, Xbc, Xbd, Xbe, Xbf, Xbg, Xbh, Xbi, Xbj, Xbk, Xbl, Xbm, Xbn, Xbo, Xbp, Xbq, ne_eq, srcRows, awo, aggEq, eqF, litEq, andO, qwl, qwo, qOp, Xbr, Xbs, Xbt, lop, Yaa, Yab, Xbu, Xbv, Xbw, oneK, Xbx, Xby, Xbz, Xca, Xcb, Xcc, Xcd, Xce, Xcf, Xcg, Xch, stepOp, Xci, Xcj, Xck, pairO, pureOp, heapOp, entry, slotsOf, ev, evL, evP, evO, lk, up, St.put, St.drop, constAV, cellAV, cellsAV, plain, binV, intBin, strBin, guardBit, boolOf, fnOf, intOfAV, bound, resOf, retV, moved, rowOf, valAt, Kd.agg, AV.cells, splice, places, fillAV, rowsFill, Hp.none, Yac, Yad, Yae, Yaf, ↓reduceIte, reduceCtorEq, Nat.reduceLT, Nat.reduceEqDiff, Nat.reduceAdd, Nat.reduceLeDiff, Nat.reducePow, Nat.reduceMul, Yay, Yaz, Yag, Yah, Yai, Yaj, Yak, Yal, Yam, Yan, Yao, Yap, Yaq, Yar, Yas, Yat, Yau, Yav, Yaw, Yax, Ybc, Ybd, Yba, Ybb, Yzz, tyW]
    refine .intro (fun h => ?_) (fun h => ?_)
    · simp only [Xaa, Xab, Xac, Xad, Xae, Xaf, Xag, Xah, Xai, Xaj, Xak, Xal, Xam, Xan, Xao, Xap, Xaq, Xar, Xas, Xat, Xau, Xav, Xaw, Xax, Xay, Xaz, Xba, Xbb, awl, Xbc, Xbd, Xbe, Xbf, Xbg, Xbh, Xbi, Xbj, Xbk, Xbl, Xbm, Xbn, Xbo, Xbp, Xbq, ne_eq, srcRows, awo, aggEq, eqF, litEq, andO, qwl, qwo, qOp, Xbr, Xbs, Xbt, lop, Yaa, Yab, Xbu, Xbv, Xbw, oneK, Xbx, Xby, Xbz, Xca, Xcb, Xcc, Xcd, Xce, Xcf, Xcg, Xch, stepOp, Xci, Xcj, Xck, pairO, pureOp, heapOp, entry, slotsOf, ev, evL, evP, evO, lk, up, St.put, St.drop, constAV, cellAV, cellsAV, plain, binV, intBin, strBin, guardBit, boolOf, fnOf, intOfAV, bound, resOf, retV, moved, rowOf, valAt, Kd.agg, AV.cells, splice, places, fillAV, rowsFill, Hp.none, Yac, Yad, Yae, Yaf, ↓reduceIte, reduceCtorEq, Nat.reduceLT, Nat.reduceEqDiff, Nat.reduceAdd, Nat.reduceLeDiff, Nat.reducePow, Nat.reduceMul, Yay, Yaz, Yag, Yah, Yai, Yaj, Yak, Yal, Yam, Yan, Yao, Yap, Yaq, Yar, Yas, Yat, Yau, Yav, Yaw, Yax, Ybc, Ybd, Yba, Ybb, Yzz, tyW]
      have : (l.any p) = true := List.any_eq_true.2 ⟨x, hm, h⟩
      have hidx : l.findIdx p = i := by
        rw [List.findIdx_eq hlt]
        rw [List.getElem?_eq_getElem hlt] at hx; cases hx
        refine ⟨h, fun j hj => hno j l[j] hj (List.getElem?_eq_getElem (by omega))⟩
      rw [if_pos this, hidx]
    · simp (disch := omega) only [Xaa, Xab, Xac, Xad, Xae, Xaf, Xag, Xah, Xai, Xaj, Xak, Xal, Xam, Xan, Xao, Xap, Xaq, Xar, Xas, Xat, Xau, Xav, Xaw, Xax, Xay, Xaz, Xba, Xbb, awl, Xbc, Xbd, Xbe, Xbf, Xbg, Xbh, Xbi, Xbj, Xbk, Xbl, Xbm, Xbn, Xbo, Xbp, Xbq, ne_eq, srcRows, awo, aggEq, eqF, litEq, andO, qwl, qwo, qOp, Xbr, Xbs, Xbt, lop, Yaa, Yab, Xbu, Xbv, Xbw, oneK, Xbx, Xby, Xbz, Xca, Xcb, Xcc, Xcd, Xce, Xcf, Xcg, Xch, stepOp, Xci, Xcj, Xck, pairO, pureOp, heapOp, entry, slotsOf, ev, evL, evP, evO, lk, up, St.put, St.drop, constAV, cellAV, cellsAV, plain, binV, intBin, strBin, guardBit, boolOf, fnOf, intOfAV, bound, resOf, retV, moved, rowOf, valAt, Kd.agg, AV.cells, splice, places, fillAV, rowsFill, Hp.none, Yac, Yad, Yae, Yaf, ↓reduceIte, reduceCtorEq, Nat.reduceLT, Nat.reduceEqDiff, Nat.reduceAdd, Nat.reduceLeDiff, Nat.reducePow, Nat.reduceMul, Yay, Yaz, Yag, Yah, Yai, Yaj, Yak, Yal, Yam, Yan, Yao, Yap, Yaq, Yar, Yas, Yat, Yau, Yav, Yaw, Yax, Ybc, Ybd, Yba, Ybb, Yzz, tyW, i64w]
      refine ⟨_, l.length - (i + 1), St.wk_slots (by simp [lk]), by omega, i + 1, by omega, rfl, ?_, rfl⟩
      intro j y hj h1
      rcases Nat.lt_succ_iff_lt_or_eq.1 hj with hj | rfl
      · exact hno j y hj h1
      · rw [hx] at h1; cases h1; exact h
  · have hge : i = l.length := by simp at hb; omega
    subst hge
    simp only [Xaa, Xab, Xac, Xad, Xae, Xaf, Xag, Xah, Xai, Xaj, Xak, Xal, Xam, Xan, Xao, Xap, Xaq, Xar, Xas, Xat, Xau, Xav, Xaw, Xax, Xay, Xaz, Xba, Xbb, awl, Xbc, Xbd, Xbe, Xbf, Xbg, Xbh, Xbi, Xbj, Xbk, Xbl, Xbm, Xbn, Xbo, Xbp, Xbq, ne_eq, srcRows, awo, aggEq, eqF, litEq, andO, qwl, qwo, qOp, Xbr, Xbs, Xbt, lop, Yaa, Yab, Xbu, Xbv, Xbw, oneK, Xbx, Xby, Xbz, Xca, Xcb, Xcc, Xcd, Xce, Xcf, Xcg, Xch, stepOp, Xci, Xcj, Xck, pairO, pureOp, heapOp, entry, slotsOf, ev, evL, evP, evO, lk, up, St.put, St.drop, constAV, cellAV, cellsAV, plain, binV, intBin, strBin, guardBit, boolOf, fnOf, intOfAV, bound, resOf, retV, moved, rowOf, valAt, Kd.agg, AV.cells, splice, places, fillAV, rowsFill, Hp.none, Yac, Yad, Yae, Yaf, ↓reduceIte, reduceCtorEq, Nat.reduceLT, Nat.reduceEqDiff, Nat.reduceAdd, Nat.reduceLeDiff, Nat.reducePow, Nat.reduceMul, Yay, Yaz, Yag, Yah, Yai, Yaj, Yak, Yal, Yam, Yan, Yao, Yap, Yaq, Yar, Yas, Yat, Yau, Yav, Yaw, Yax, Ybc, Ybd, Yba, Ybb, Yzz, tyW]
    have : (l.any p) = false := by
      rw [List.any_eq_false]
      intro x hx
      obtain ⟨j, hj⟩ := List.getElem?_of_mem hx
      have := hno j x (List.getElem?_eq_some_iff.1 hj).1 hj
      simp [this]
    simp [this]
theorem index_Rule (l : List Rl) (p : Rl → Bool) (hs : l.length ≤ 1000000000) (fn : Nat) (first cap : List AV) (h : Hp) (hc : Callable Try.prog fn) (hp : ∀ t ∈ l, QCall Try.prog fn (first ++ [.agg (encRl t)] ++ cap) h (.lit (.bool (p t)))) :
    QCall Try.prog 38 [.vec (l.map encRl) false, .fn (.func fn) first cap] h (.lit (.int .i64 (if l.any p then ((l.findIdx p : Nat) : Int) else -1))) := by
  refine SCall_intro Try.func38 rfl Try.ntmps38 (rs := [.tmp 4]) rfl (by simp) ?_
  simp only [Xaa, Xab, Xac, Xad, Xae, Xaf, Xag, Xah, Xai, Xaj, Xak, Xal, Xam, Xan, Xao, Xap, Xaq, Xar, Xas, Xat, Xau, Xav, Xaw, Xax, Xay, Xaz, Xba, Xbb, awl, Xbc, Xbd, Xbe, Xbf, Xbg, Xbh, Xbi, Xbj, Xbk, Xbl, Xbm, Xbn, Xbo, Xbp, Xbq, ne_eq, srcRows, awo, aggEq, eqF, litEq, andO, qwl, qwo, qOp, Xbr, Xbs, Xbt, lop, Yaa, Yab, Xbu, Xbv, Xbw, oneK, Xbx, Xby, Xbz, Xca, Xcb, Xcc, Xcd, Xce, Xcf, Xcg, Xch, stepOp, Xci, Xcj, Xck, pairO, pureOp, heapOp, entry, slotsOf, ev, evL, evP, evO, lk, up, St.put, St.drop, constAV, cellAV, cellsAV, plain, binV, intBin, strBin, guardBit, boolOf, fnOf, intOfAV, bound, resOf, retV, moved, rowOf, valAt, Kd.agg, AV.cells, splice, places, fillAV, rowsFill, Hp.none, Yac, Yad, Yae, Yaf, ↓reduceIte, reduceCtorEq, Nat.reduceLT, Nat.reduceEqDiff, Nat.reduceAdd, Nat.reduceLeDiff, Nat.reducePow, Nat.reduceMul, Yay, Yaz, Yag, Yah, Yai, Yaj, Yak, Yal, Yam, Yan, Yao, Yap, Yaq, Yar, Yas, Yat, Yau, Yav, Yaw, Yax, Ybc, Ybd, Yba, Ybb, Yzz, tyW, List.length_map]
  refine aw_loop (fun n σ => ∃ i, i ≤ l.length ∧ n = l.length - i ∧ (∀ j x, j < i → l[j]? = some x → p x = false) ∧ σ = ⟨[(0, .vec (l.map encRl) false), (1, .fn (.func fn) first cap), (7, .lit (.int .i64 l.length)), (8, .lit (.int .i64 i))], h, 19⟩)
    (σ' := ⟨[(0, .vec (l.map encRl) false), (1, .fn (.func fn) first cap), (7, .lit (.int .i64 l.length)), (8, .lit (.int .i64 0))], h, 19⟩) (St.wk_slots (by simp [lk])) l.length ⟨0, by simp, by simp, by simp, by simp⟩ ?_
  rintro n σ ⟨i, hi, rfl, hno, rfl⟩
  simp only [Xaa, Xab, Xac, Xad, Xae, Xaf, Xag, Xah, Xai, Xaj, Xak, Xal, Xam, Xan, Xao, Xap, Xaq, Xar, Xas, Xat, Xau, Xav, Xaw, Xax, Xay, Xaz, Xba, Xbb, awl, Xbc, Xbd, Xbe, Xbf, Xbg, Xbh, Xbi, Xbj, Xbk, Xbl, Xbm, Xbn, Xbo, Xbp, Xbq, ne_eq, srcRows, awo, aggEq, eqF, litEq, andO, qwl, qwo, qOp, Xbr, Xbs, Xbt, lop, Yaa, Yab, Xbu, Xbv, Xbw, oneK, Xbx, Xby, Xbz, Xca, Xcb, Xcc, Xcd, Xce, Xcf, Xcg, Xch, stepOp, Xci, Xcj, Xck, pairO, pureOp, heapOp, entry, slotsOf, ev, evL, evP, evO, lk, up, St.put, St.drop, constAV, cellAV, cellsAV, plain, binV, intBin, strBin, guardBit, boolOf, fnOf, intOfAV, bound, resOf, retV, moved, rowOf, valAt, Kd.agg, AV.cells, splice, places, fillAV, rowsFill, Hp.none, Yac, Yad, Yae, Yaf, ↓reduceIte, reduceCtorEq, Nat.reduceLT, Nat.reduceEqDiff, Nat.reduceAdd, Nat.reduceLeDiff, Nat.reducePow, Nat.reduceMul, Yay, Yaz, Yag, Yah, Yai, Yaj, Yak, Yal, Yam, Yan, Yao, Yap, Yaq, Yar, Yas, Yat, Yau, Yav, Yaw, Yax, Ybc, Ybd, Yba, Ybb, Yzz, tyW, List.length_map]
  refine .intro (fun hb => ?_) (fun hb => ?_)
  · have hlt : i < l.length := by have := of_decide_eq_true hb; omega
    have hx := List.getElem?_eq_getElem hlt
    generalize l[i] = x at hx
    have g1 := map_getD encRl hx
    have hm : x ∈ l := List.mem_of_getElem? hx
    have hnn : (0 : Int) ≤ (i : Int) := Int.natCast_nonneg i
    have hi1 : (i : Int) < (l.length : Int) := by omega
    have hl7 := encRl_length x
    simp only [Xaa, Xab, Xac, Xad, Xae, Xaf, Xag, Xah, Xai, Xaj, Xak, Xal, Xam, Xan, Xao, Xap, Xaq, Xar, Xas, Xat, Xau, Xav, Xaw, Xax, Xay, Xaz, Xba, Xbb, awl, Xbc, Xbd, Xbe, Xbf, Xbg, Xbh, Xbi, Xbj, Xbk, Xbl, Xbm, Xbn, Xbo, Xbp, Xbq, ne_eq, srcRows, awo, aggEq, eqF, litEq, andO, qwl, qwo, qOp, Xbr, Xbs, Xbt, lop, Yaa, Yab, Xbu, Xbv, Xbw, oneK, Xbx, Xby, Xbz, Xca, Xcb, Xcc, Xcd, Xce, Xcf, Xcg, Xch, stepOp, Xci, Xcj, Xck, pairO, pureOp, heapOp, entry, slotsOf, ev, evL, evP, evO, lk, up, St.put, St.drop, constAV, cellAV, cellsAV, plain, binV, intBin, strBin, guardBit, boolOf, fnOf, intOfAV, bound, resOf, retV, moved, rowOf, valAt, Kd.agg, AV.cells, splice, places, fillAV, rowsFill, Hp.none, Yac, Yad, Yae, Yaf, ↓reduceIte, reduceCtorEq, Nat.reduceLT, Nat.reduceEqDiff, Nat.reduceAdd, Nat.reduceLeDiff, Nat.reducePow, Nat.reduceMul, Yay, Yaz, Yag, Yah, Yai, Yaj, Yak, Yal, Yam, Yan, Yao, Yap, Yaq, Yar, Yas, Yat, Yau, Yav, Yaw, Yax, Ybc, Ybd, Yba, Ybb, Yzz, tyW, List.length_map, Int.toNat_natCast, g1, hnn, hi1, hl7, encRl_take]
    refine CallK_of hc (hp x hm) ?_
    rintro r h' ⟨rfl, rfl⟩
    simp only [Xaa, Xab, Xac, Xad, Xae, Xaf, Xag, Xah, Xai, Xaj, Xak, Xal, Xam, Xan, Xao, Xap, Xaq, Xar, Xas, Xat, Xau, Xav, Xaw, Xax, Xay, Xaz, Xba, Xbb, awl, Xbc, Xbd, Xbe, Xbf, Xbg, Xbh, Xbi, Xbj, Xbk, Xbl, Xbm, Xbn, Xbo, Xbp, Xbq, ne_eq, srcRows, awo, aggEq, eqF, litEq, andO, qwl, qwo, qOp, Xbr, Xbs, Xbt, lop, Yaa, Yab, Xbu, Xbv, Xbw, oneK, Xbx, Xby, Xbz, Xca, Xcb, Xcc, Xcd, Xce, Xcf, Xcg, Xch, stepOp, Xci, Xcj, Xck, pairO, pureOp, heapOp, entry, slotsOf, ev, evL, evP, evO, lk, up, St.put, St.drop, constAV, cellAV, cellsAV, plain, binV, intBin, strBin, guardBit, boolOf, fnOf, intOfAV, bound, resOf, retV, moved, rowOf, valAt, Kd.agg, AV.cells, splice, places, fillAV, rowsFill, Hp.none, Yac, Yad, Yae, Yaf, ↓reduceIte, reduceCtorEq, Nat.reduceLT, Nat.reduceEqDiff, Nat.reduceAdd, Nat.reduceLeDiff, Nat.reducePow, Nat.reduceMul, Yay, Yaz, Yag, Yah, Yai, Yaj, Yak, Yal, Yam, Yan, Yao, Yap, Yaq, Yar, Yas, Yat, Yau, Yav, Yaw, Yax, Ybc, Ybd, Yba, Ybb, Yzz, tyW]
    refine .intro (fun h => ?_) (fun h => ?_)
    · simp only [Xaa, Xab, Xac, Xad, Xae, Xaf, Xag, Xah, Xai, Xaj, Xak, Xal, Xam, Xan, Xao, Xap, Xaq, Xar, Xas, Xat, Xau, Xav, Xaw, Xax, Xay, Xaz, Xba, Xbb, awl, Xbc, Xbd, Xbe, Xbf, Xbg, Xbh, Xbi, Xbj, Xbk, Xbl, Xbm, Xbn, Xbo, Xbp, Xbq, ne_eq, srcRows, awo, aggEq, eqF, litEq, andO, qwl, qwo, qOp, Xbr, Xbs, Xbt, lop, Yaa, Yab, Xbu, Xbv, Xbw, oneK, Xbx, Xby, Xbz, Xca, Xcb, Xcc, Xcd, Xce, Xcf, Xcg, Xch, stepOp, Xci, Xcj, Xck, pairO, pureOp, heapOp, entry, slotsOf, ev, evL, evP, evO, lk, up, St.put, St.drop, constAV, cellAV, cellsAV, plain, binV, intBin, strBin, guardBit, boolOf, fnOf, intOfAV, bound, resOf, retV, moved, rowOf, valAt, Kd.agg, AV.cells, splice, places, fillAV, rowsFill, Hp.none, Yac, Yad, Yae, Yaf, ↓reduceIte, reduceCtorEq, Nat.reduceLT, Nat.reduceEqDiff, Nat.reduceAdd, Nat.reduceLeDiff, Nat.reducePow, Nat.reduceMul, Yay, Yaz, Yag, Yah, Yai, Yaj, Yak, Yal, Yam, Yan, Yao, Yap, Yaq, Yar, Yas, Yat, Yau, Yav, Yaw, Yax, Ybc, Ybd, Yba, Ybb, Yzz, tyW]
      have : (l.any p) = true := List.any_eq_true.2 ⟨x, hm, h⟩
      have hidx : l.findIdx p = i := by
        rw [List.findIdx_eq hlt]
        rw [List.getElem?_eq_getElem hlt] at hx; cases hx
        refine ⟨h, fun j hj => hno j l[j] hj (List.getElem?_eq_getElem (by omega))⟩
      rw [if_pos this, hidx]
    · simp (disch := omega) only [Xaa, Xab, Xac, Xad, Xae, Xaf, Xag, Xah, Xai, Xaj, Xak, Xal, Xam, Xan, Xao, Xap, Xaq, Xar, Xas, Xat, Xau, Xav, Xaw, Xax, Xay, Xaz, Xba, Xbb, awl, Xbc, Xbd, Xbe, Xbf, Xbg, Xbh, Xbi, Xbj, Xbk, Xbl, Xbm, Xbn, Xbo, Xbp, Xbq, ne_eq, srcRows, awo, aggEq, eqF, litEq, andO, qwl, qwo, qOp, Xbr, Xbs, Xbt, lop, Yaa, Yab, Xbu, Xbv, Xbw, oneK, Xbx, Xby, Xbz, Xca, Xcb, Xcc, Xcd, Xce, Xcf, Xcg, Xch, stepOp, Xci, Xcj, Xck, pairO, pureOp, heapOp, entry, slotsOf, ev, evL, evP, evO, lk, up, St.put, St.drop, constAV, cellAV, cellsAV, plain, binV, intBin, strBin, guardBit, boolOf, fnOf, intOfAV, bound, resOf, retV, moved, rowOf, valAt, Kd.agg, AV.cells, splice, places, fillAV, rowsFill, Hp.none, Yac, Yad, Yae, Yaf, ↓reduceIte, reduceCtorEq, Nat.reduceLT, Nat.reduceEqDiff, Nat.reduceAdd, Nat.reduceLeDiff, Nat.reducePow, Nat.reduceMul, Yay, Yaz, Yag, Yah, Yai, Yaj, Yak, Yal, Yam, Yan, Yao, Yap, Yaq, Yar, Yas, Yat, Yau, Yav, Yaw, Yax, Ybc, Ybd, Yba, Ybb, Yzz, tyW, i64w]
      refine ⟨_, l.length - (i + 1), St.wk_slots (by simp [lk]), by omega, i + 1, by omega, rfl, ?_, rfl⟩
      intro j y hj h1
      rcases Nat.lt_succ_iff_lt_or_eq.1 hj with hj | rfl
      · exact hno j y hj h1
      · rw [hx] at h1; cases h1; exact h
  · have hge : i = l.length := by simp at hb; omega
    subst hge
    simp only [Xaa, Xab, Xac, Xad, Xae, Xaf, Xag, Xah, Xai, Xaj, Xak, Xal, Xam, Xan, Xao, Xap, Xaq, Xar, Xas, Xat, Xau, Xav, Xaw, Xax, Xay, Xaz, Xba, Xbb, awl, Xbc, Xbd, Xbe, Xbf, Xbg, Xbh, Xbi, Xbj, Xbk, Xbl, Xbm, Xbn, Xbo, Xbp, Xbq, ne_eq, srcRows, awo, aggEq, eqF, litEq, andO, qwl, qwo, qOp, Xbr, Xbs, Xbt, lop, Yaa, Yab, Xbu, Xbv, Xbw, oneK, Xbx, Xby, Xbz, Xca, Xcb, Xcc, Xcd, Xce, Xcf, Xcg, Xch, stepOp, Xci, Xcj, Xck, pairO, pureOp, heapOp, entry, slotsOf, ev, evL, evP, evO, lk, up, St.put, St.drop, constAV, cellAV, cellsAV, plain, binV, intBin, strBin, guardBit, boolOf, fnOf, intOfAV, bound, resOf, retV, moved, rowOf, valAt, Kd.agg, AV.cells, splice, places, fillAV, rowsFill, Hp.none, Yac, Yad, Yae, Yaf, ↓reduceIte, reduceCtorEq, Nat.reduceLT, Nat.reduceEqDiff, Nat.reduceAdd, Nat.reduceLeDiff, Nat.reducePow, Nat.reduceMul, Yay, Yaz, Yag, Yah, Yai, Yaj, Yak, Yal, Yam, Yan, Yao, Yap, Yaq, Yar, Yas, Yat, Yau, Yav, Yaw, Yax, Ybc, Ybd, Yba, Ybb, Yzz, tyW]
    have : (l.any p) = false := by
      rw [List.any_eq_false]
      intro x hx
      obtain ⟨j, hj⟩ := List.getElem?_of_mem hx
      have := hno j x (List.getElem?_eq_some_iff.1 hj).1 hj
      simp [this]
    simp [this]
theorem contains_Elem (l : List El) (p : El → Bool) (hs : l.length ≤ 1000000000) (fn : Nat) (first cap : List AV) (h : Hp) (hc : Callable Try.prog fn) (hp : ∀ t ∈ l, QCall Try.prog fn (first ++ [.agg (encE t)] ++ cap) h (.lit (.bool (p t)))) :
    QCall Try.prog 31 [.vec (l.map encE) false, .fn (.func fn) first cap] h (.lit (.bool (l.any p))) := by
  refine SCall_intro Try.func31 rfl Try.ntmps31 (rs := [.tmp 4]) rfl (by simp) ?_
  simp only [Xaa, Xab, Xac, Xad, Xae, Xaf, Xag, Xah, Xai, Xaj, Xak, Xal, Xam, Xan, Xao, Xap, Xaq, Xar, Xas, Xat, Xau, Xav, Xaw, Xax, Xay, Xaz, Xba, Xbb, awl, Xbc, Xbd, Xbe, Xbf, Xbg, Xbh, Xbi, Xbj, Xbk, Xbl, Xbm, Xbn, Xbo, Xbp, Xbq, ne_eq, srcRows, awo, aggEq, eqF, litEq, andO, qwl, qwo, qOp, Xbr, Xbs, Xbt, lop, Yaa, Yab, Xbu, Xbv, Xbw, oneK, Xbx, Xby, Xbz, Xca, Xcb, Xcc, Xcd, Xce, Xcf, Xcg, Xch, stepOp, Xci, Xcj, Xck, pairO, pureOp, heapOp, entry, slotsOf, ev, evL, evP, evO, lk, up, St.put, St.drop, constAV, cellAV, cellsAV, plain, binV, intBin, strBin, guardBit, boolOf, fnOf, intOfAV, bound, resOf, retV, moved, rowOf, valAt, Kd.agg, AV.cells, splice, places, fillAV, rowsFill, Hp.none, Yac, Yad, Yae, Yaf, ↓reduceIte, reduceCtorEq, Nat.reduceLT, Nat.reduceEqDiff, Nat.reduceAdd, Nat.reduceLeDiff, Nat.reducePow, Nat.reduceMul, Yay, Yaz, Yag, Yah, Yai, Yaj, Yak, Yal, Yam, Yan, Yao, Yap, Yaq, Yar, Yas, Yat, Yau, Yav, Yaw, Yax, Ybc, Ybd, Yba, Ybb, Yzz, tyW]
  refine CallK_of call41 (index_Elem l p hs fn first cap h hc hp) ?_
  rintro r h' ⟨rfl, rfl⟩
  simp only [Xaa, Xab, Xac, Xad, Xae, Xaf, Xag, Xah, Xai, Xaj, Xak, Xal, Xam, Xan, Xao, Xap, Xaq, Xar, Xas, Xat, Xau, Xav, Xaw, Xax, Xay, Xaz, Xba, Xbb, awl, Xbc, Xbd, Xbe, Xbf, Xbg, Xbh, Xbi, Xbj, Xbk, Xbl, Xbm, Xbn, Xbo, Xbp, Xbq, ne_eq, srcRows, awo, aggEq, eqF, litEq, andO, qwl, qwo, qOp, Xbr, Xbs, Xbt, lop, Yaa, Yab, Xbu, Xbv, Xbw, oneK, Xbx, Xby, Xbz, Xca, Xcb, Xcc, Xcd, Xce, Xcf, Xcg, Xch, stepOp, Xci, Xcj, Xck, pairO, pureOp, heapOp, entry, slotsOf, ev, evL, evP, evO, lk, up, St.put, St.drop, constAV, cellAV, cellsAV, plain, binV, intBin, strBin, guardBit, boolOf, fnOf, intOfAV, bound, resOf, retV, moved, rowOf, valAt, Kd.agg, AV.cells, splice, places, fillAV, rowsFill, Hp.none, Yac, Yad, Yae, Yaf, ↓reduceIte, reduceCtorEq, Nat.reduceLT, Nat.reduceEqDiff, Nat.reduceAdd, Nat.reduceLeDiff, Nat.reducePow, Nat.reduceMul, Yay, Yaz, Yag, Yah, Yai, Yaj, Yak, Yal, Yam, Yan, Yao, Yap, Yaq, Yar, Yas, Yat, Yau, Yav, Yaw, Yax, Ybc, Ybd, Yba, Ybb, Yzz, tyW]
  cases hl : l.any p with
  | true => simp
  | false => simp
theorem contains_Alt (l : List Al) (p : Al → Bool) (hs : l.length ≤ 1000000000) (fn : Nat) (first cap : List AV) (h : Hp) (hc : Callable Try.prog fn) (hp : ∀ t ∈ l, QCall Try.prog fn (first ++ [.agg (encA t)] ++ cap) h (.lit (.bool (p t)))) :
    QCall Try.prog 28 [.vec (l.map encA) false, .fn (.func fn) first cap] h (.lit (.bool (l.any p))) := by
  refine SCall_intro Try.func28 rfl Try.ntmps28 (rs := [.tmp 4]) rfl (by simp) ?_
  simp only [Xaa, Xab, Xac, Xad, Xae, Xaf, Xag, Xah, Xai, Xaj, Xak, Xal, Xam, Xan, Xao, Xap, Xaq, Xar, Xas, Xat, Xau, Xav, Xaw, Xax, Xay, Xaz, Xba, Xbb, awl, Xbc, Xbd, Xbe, Xbf, Xbg, Xbh, Xbi, Xbj, Xbk, Xbl, Xbm, Xbn, Xbo, Xbp, Xbq, ne_eq, srcRows, awo, aggEq, eqF, litEq, andO, qwl, qwo, qOp, Xbr, Xbs, Xbt, lop, Yaa, Yab, Xbu, Xbv, Xbw, oneK, Xbx, Xby, Xbz, Xca, Xcb, Xcc, Xcd, Xce, Xcf, Xcg, Xch, stepOp, Xci, Xcj, Xck, pairO, pureOp, heapOp, entry, slotsOf, ev, evL, evP, evO, lk, up, St.put, St.drop, constAV, cellAV, cellsAV, plain, binV, intBin, strBin, guardBit, boolOf, fnOf, intOfAV, bound, resOf, retV, moved, rowOf, valAt, Kd.agg, AV.cells, splice, places, fillAV, rowsFill, Hp.none, Yac, Yad, Yae, Yaf, ↓reduceIte, reduceCtorEq, Nat.reduceLT, Nat.reduceEqDiff, Nat.reduceAdd, Nat.reduceLeDiff, Nat.reducePow, Nat.reduceMul, Yay, Yaz, Yag, Yah, Yai, Yaj, Yak, Yal, Yam, Yan, Yao, Yap, Yaq, Yar, Yas, Yat, Yau, Yav, Yaw, Yax, Ybc, Ybd, Yba, Ybb, Yzz, tyW]
  refine CallK_of call40 (index_Alt l p hs fn first cap h hc hp) ?_
  rintro r h' ⟨rfl, rfl⟩
  simp only [Xaa, Xab, Xac, Xad, Xae, Xaf, Xag, Xah, Xai, Xaj, Xak, Xal, Xam, Xan, Xao, Xap, Xaq, Xar, Xas, Xat, Xau, Xav, Xaw, Xax, Xay, Xaz, Xba, Xbb, awl, Xbc, Xbd, Xbe, Xbf, Xbg, Xbh, Xbi, Xbj, Xbk, Xbl, Xbm, Xbn, Xbo, Xbp, Xbq, ne_eq, srcRows, awo, aggEq, eqF, litEq, andO, qwl, qwo, qOp, Xbr, Xbs, Xbt, lop, Yaa, Yab, Xbu, Xbv, Xbw, oneK, Xbx, Xby, Xbz, Xca, Xcb, Xcc, Xcd, Xce, Xcf, Xcg, Xch, stepOp, Xci, Xcj, Xck, pairO, pureOp, heapOp, entry, slotsOf, ev, evL, evP, evO, lk, up, St.put, St.drop, constAV, cellAV, cellsAV, plain, binV, intBin, strBin, guardBit, boolOf, fnOf, intOfAV, bound, resOf, retV, moved, rowOf, valAt, Kd.agg, AV.cells, splice, places, fillAV, rowsFill, Hp.none, Yac, Yad, Yae, Yaf, ↓reduceIte, reduceCtorEq, Nat.reduceLT, Nat.reduceEqDiff, Nat.reduceAdd, Nat.reduceLeDiff, Nat.reducePow, Nat.reduceMul, Yay, Yaz, Yag, Yah, Yai, Yaj, Yak, Yal, Yam, Yan, Yao, Yap, Yaq, Yar, Yas, Yat, Yau, Yav, Yaw, Yax, Ybc, Ybd, Yba, Ybb, Yzz, tyW]
  cases hl : l.any p with
  | true => simp
  | false => simp
end Go.Proofs.Ytogdlomemaoajaa
