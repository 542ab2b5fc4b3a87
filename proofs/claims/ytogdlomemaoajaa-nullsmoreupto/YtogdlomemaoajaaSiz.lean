/- Contracts: how great an element, a grammar is. Conditions: those that each theorem names. -/
import Derived.Test.YtogdlomemaoajaaFind
namespace Go.Proofs.Ytogdlomemaoajaa
open Go.Ab
set_option linter.unusedSimpArgs false
set_option linter.unusedVariables false
set_option maxRecDepth 20000

mutual
def szE : El → Int
  | .mk _ _ _ _ _ kids _ _ => szL 1 kids
def szL : Int → List El → Int
  | n, [] => n
  | n, e :: l => szL (min (n + szE e) 100000) l
end
theorem szL_snoc : ∀ (l : List El) (n : Int) (t : El), szL n (l ++ [t]) = min (szL n l + szE t) 100000
  | [], n, t => by simp [szL]
  | x :: l, n, t => by simp [szL, szL_snoc l]
theorem szL_bd : ∀ (l : List El) (n : Int), 0 ≤ n → n ≤ 100000 → (∀ t ∈ l, 0 ≤ szE t) → 0 ≤ szL n l ∧ szL n l ≤ 100000
  | [], n, h0, h1, _ => ⟨h0, h1⟩
  | x :: l, n, h0, h1, h => szL_bd l _ (by have := h x (by simp); omega) (by omega) (fun t ht => h t (by simp [ht]))
theorem szE_bd (t : El) : 0 ≤ szE t ∧ szE t ≤ 100000 := by
  match t with
  | .mk _ _ _ _ _ kids _ _ => exact szL_bd kids 1 (by omega) (by omega) (fun k hk => (szE_bd k).1)
termination_by SizeOf.sizeOf t
decreasing_by simp_wf; have := List.sizeOf_lt_of_mem hk; omega

theorem spec5 (e : El) (he : esz e ≤ 1000000000) : PCall Try.prog 5 [.agg (encE e)] (.lit (.int .i64 (szE e))) := by
  match e with
  | .mk op name set lz (.mk gop gn gname gkids) kids level place =>
    have hsz : eszs kids ≤ 1000000000 := by simp only [esz] at he; omega
    have hlen : kids.length ≤ 1000000000 := by have := eszs_len kids; omega
    have ih : ∀ k ∈ kids, PCall Try.prog 5 [.agg (encE k)] (.lit (.int .i64 (szE k))) := fun k hk => spec5 k (by have := eszs_mem hk; omega)
    refine PCall_intro Try.func5 rfl Try.ntmps5 (rs := [.tmp 2]) rfl (by simp) ?_
    simp only [Xaa, Xab, Xac, Xad, Xae, Xaf, Xag, Xah, Xai, Xaj, Xak, Xal, Xam, Xan, Xao, Xap, Xaq, Xar, Xas, Xat, Xau, Xav, Xaw, Xax, Xay, Xaz, Xba, Xbb, awl, Xbc, Xbd, Xbe, Xbf, Xbg, Xbh, Xbi, Xbj, Xbk, Xbl, Xbm, Xbn, Xbo, Xbp, Xbq, ne_eq, srcRows, awo, aggEq, eqF, litEq, andO, qwl, qwo, qOp, Xbr, Xbs, Xbt, lop, Yaa, Yab, Xbu, Xbv, Xbw, oneK, Xbx, Xby, Xbz, Xca, Xcb, Xcc, Xcd, Xce, Xcf, Xcg, Xch, stepOp, Xci, Xcj, Xck, pairO, pureOp, heapOp, entry, slotsOf, ev, evL, evP, evO, lk, up, St.put, St.drop, constAV, cellAV, cellsAV, plain, binV, intBin, strBin, guardBit, boolOf, fnOf, intOfAV, bound, resOf, retV, moved, rowOf, valAt, Kd.agg, AV.cells, splice, places, fillAV, rowsFill, Hp.none, Yac, Yad, Yae, Yaf, ↓reduceIte, reduceCtorEq, Nat.reduceLT, Nat.reduceEqDiff, Nat.reduceAdd, Nat.reduceLeDiff, Nat.reducePow, Nat.reduceMul, Yay, Yaz, Yag, Yah, Yai, Yaj, Yak, Yal, Yam, Yan, Yao, Yap, Yaq, Yar, Yas, Yat, Yau, Yav, Yaw, Yax, Ybc, Ybd, Yba, Ybb, Yzz, tyW, encE, encEs_map, encGs_map]
    refine aw_for kids.length 1 (fun i (_ : Unit) => ⟨[(1, .ptr 0 0), (3, .lit (.int .i64 (szL 1 (kids.take i)))), (4, .lit (.int .i64 i))], ⟨[(0, encE (.mk op name set lz (.mk gop gn gname gkids) kids level place))], [], 1⟩, 22⟩) (fun _ _ => True) (fun _ _ => rfl) () (St.le.wk (by simp [St.le, lk, encE, encEs_map, encGs_map, szL])) trivial ?_ ?_
    · intro i _ hlt _
      have hk := List.getElem?_eq_getElem hlt
      generalize kids[i] = k at hk
      have hm : k ∈ kids := List.mem_of_getElem? hk
      have g1 := map_getD encE hk
      have hin : (0 : Int) ≤ (i : Int) := Int.natCast_nonneg i
      have hi1 : (i : Int) < (kids.length : Int) := by omega
      have b1 := szL_bd (kids.take i) 1 (by omega) (by omega) (fun t _ => (szE_bd t).1)
      have b2 := szE_bd k
      have hnx : szL 1 (kids.take (i + 1)) = min (szL 1 (kids.take i) + szE k) 100000 := by rw [List.take_add_one, hk, Option.toList_some, szL_snoc]
      rw [hnx]
      generalize szL 1 (kids.take i) = n0 at b1 ⊢
      simp only [Xaa, Xab, Xac, Xad, Xae, Xaf, Xag, Xah, Xai, Xaj, Xak, Xal, Xam, Xan, Xao, Xap, Xaq, Xar, Xas, Xat, Xau, Xav, Xaw, Xax, Xay, Xaz, Xba, Xbb, awl, Xbc, Xbd, Xbe, Xbf, Xbg, Xbh, Xbi, Xbj, Xbk, Xbl, Xbm, Xbn, Xbo, Xbp, Xbq, ne_eq, srcRows, awo, aggEq, eqF, litEq, andO, qwl, qwo, qOp, Xbr, Xbs, Xbt, lop, Yaa, Yab, Xbu, Xbv, Xbw, oneK, Xbx, Xby, Xbz, Xca, Xcb, Xcc, Xcd, Xce, Xcf, Xcg, Xch, stepOp, Xci, Xcj, Xck, pairO, pureOp, heapOp, entry, slotsOf, ev, evL, evP, evO, lk, up, St.put, St.drop, constAV, cellAV, cellsAV, plain, binV, intBin, strBin, guardBit, boolOf, fnOf, intOfAV, bound, resOf, retV, moved, rowOf, valAt, Kd.agg, AV.cells, splice, places, fillAV, rowsFill, Hp.none, Yac, Yad, Yae, Yaf, ↓reduceIte, reduceCtorEq, Nat.reduceLT, Nat.reduceEqDiff, Nat.reduceAdd, Nat.reduceLeDiff, Nat.reducePow, Nat.reduceMul, Yay, Yaz, Yag, Yah, Yai, Yaj, Yak, Yal, Yam, Yan, Yao, Yap, Yaq, Yar, Yas, Yat, Yau, Yav, Yaw, Yax, Ybc, Ybd, Yba, Ybb, Yzz, tyW, encE, encEs_map, encGs_map, List.length_map]
      refine .intro (fun hb => ?_) (fun hb => ?_)
      case' refine_2 => exfalso; exact of_decide_eq_false hb hi1
      clear hb
      rw [Xaa, Xam, Xad]
      simp only [Xaa, Xab, Xac, Xad, Xae, Xaf, Xag, Xah, Xai, Xaj, Xak, Xal, Xam, Xan, Xao, Xap, Xaq, Xar, Xas, Xat, Xau, Xav, Xaw, Xax, Xay, Xaz, Xba, Xbb, awl, Xbc, Xbd, Xbe, Xbf, Xbg, Xbh, Xbi, Xbj, Xbk, Xbl, Xbm, Xbn, Xbo, Xbp, Xbq, ne_eq, srcRows, awo, aggEq, eqF, litEq, andO, qwl, qwo, qOp, Xbr, Xbs, Xbt, lop, Yaa, Yab, Xbu, Xbv, Xbw, oneK, Xbx, Xby, Xbz, Xca, Xcb, Xcc, Xcd, Xce, Xcf, Xcg, Xch, stepOp, Xci, Xcj, Xck, pairO, pureOp, heapOp, entry, slotsOf, ev, evL, evP, evO, lk, up, St.put, St.drop, constAV, cellAV, cellsAV, plain, binV, intBin, strBin, guardBit, boolOf, fnOf, intOfAV, bound, resOf, retV, moved, rowOf, valAt, Kd.agg, AV.cells, splice, places, fillAV, rowsFill, Hp.none, Yac, Yad, Yae, Yaf, ↓reduceIte, reduceCtorEq, Nat.reduceLT, Nat.reduceEqDiff, Nat.reduceAdd, Nat.reduceLeDiff, Nat.reducePow, Nat.reduceMul, Yay, Yaz, Yag, Yah, Yai, Yaj, Yak, Yal, Yam, Yan, Yao, Yap, Yaq, Yar, Yas, Yat, Yau, Yav, Yaw, Yax, Ybc, Ybd, Yba, Ybb, Yzz, tyW, List.length_map, Int.toNat_natCast, g1, hin, hi1, encE_length, encE_take]
      refine CallK_pure call5 (ih k hm) (by simpa using pureE k) (.lit _) ?_
      have hmin : min (n0 + szE k) 100000 = if 100000 < n0 + szE k then 100000 else n0 + szE k := by rw [Int.min_def]; split <;> split <;> omega
      rw [hmin]
      simp (disch := omega) only [Xaa, Xab, Xac, Xad, Xae, Xaf, Xag, Xah, Xai, Xaj, Xak, Xal, Xam, Xan, Xao, Xap, Xaq, Xar, Xas, Xat, Xau, Xav, Xaw, Xax, Xay, Xaz, Xba, Xbb, awl, Xbc, Xbd, Xbe, Xbf, Xbg, Xbh, Xbi, Xbj, Xbk, Xbl, Xbm, Xbn, Xbo, Xbp, Xbq, ne_eq, srcRows, awo, aggEq, eqF, litEq, andO, qwl, qwo, qOp, Xbr, Xbs, Xbt, lop, Yaa, Yab, Xbu, Xbv, Xbw, oneK, Xbx, Xby, Xbz, Xca, Xcb, Xcc, Xcd, Xce, Xcf, Xcg, Xch, stepOp, Xci, Xcj, Xck, pairO, pureOp, heapOp, entry, slotsOf, ev, evL, evP, evO, lk, up, St.put, St.drop, constAV, cellAV, cellsAV, plain, binV, intBin, strBin, guardBit, boolOf, fnOf, intOfAV, bound, resOf, retV, moved, rowOf, valAt, Kd.agg, AV.cells, splice, places, fillAV, rowsFill, Hp.none, Yac, Yad, Yae, Yaf, ↓reduceIte, reduceCtorEq, Nat.reduceLT, Nat.reduceEqDiff, Nat.reduceAdd, Nat.reduceLeDiff, Nat.reducePow, Nat.reduceMul, Yay, Yaz, Yag, Yah, Yai, Yaj, Yak, Yal, Yam, Yan, Yao, Yap, Yaq, Yar, Yas, Yat, Yau, Yav, Yaw, Yax, Ybc, Ybd, Yba, Ybb, Yzz, tyW, i64w]
      exact ⟨(), St.wk.cp (St.le.wk (by simp [St.le, lk]))⟩
    · intro _ _
      have hd : decide (((kids.length : Nat) : Int) < (kids.length : Int)) = false := decide_eq_false (by omega)
      simp only [Xaa, Xab, Xac, Xad, Xae, Xaf, Xag, Xah, Xai, Xaj, Xak, Xal, Xam, Xan, Xao, Xap, Xaq, Xar, Xas, Xat, Xau, Xav, Xaw, Xax, Xay, Xaz, Xba, Xbb, awl, Xbc, Xbd, Xbe, Xbf, Xbg, Xbh, Xbi, Xbj, Xbk, Xbl, Xbm, Xbn, Xbo, Xbp, Xbq, ne_eq, srcRows, awo, aggEq, eqF, litEq, andO, qwl, qwo, qOp, Xbr, Xbs, Xbt, lop, Yaa, Yab, Xbu, Xbv, Xbw, oneK, Xbx, Xby, Xbz, Xca, Xcb, Xcc, Xcd, Xce, Xcf, Xcg, Xch, stepOp, Xci, Xcj, Xck, pairO, pureOp, heapOp, entry, slotsOf, ev, evL, evP, evO, lk, up, St.put, St.drop, constAV, cellAV, cellsAV, plain, binV, intBin, strBin, guardBit, boolOf, fnOf, intOfAV, bound, resOf, retV, moved, rowOf, valAt, Kd.agg, AV.cells, splice, places, fillAV, rowsFill, Hp.none, Yac, Yad, Yae, Yaf, ↓reduceIte, reduceCtorEq, Nat.reduceLT, Nat.reduceEqDiff, Nat.reduceAdd, Nat.reduceLeDiff, Nat.reducePow, Nat.reduceMul, Yay, Yaz, Yag, Yah, Yai, Yaj, Yak, Yal, Yam, Yan, Yao, Yap, Yaq, Yar, Yas, Yat, Yau, Yav, Yaw, Yax, Ybc, Ybd, Yba, Ybb, Yzz, tyW, encE, encEs_map, encGs_map, List.length_map, hd, List.take_length]
      exact expo_pure (.lit _)
  termination_by SizeOf.sizeOf e
  decreasing_by simp_wf; have := List.sizeOf_lt_of_mem hk; omega

def addA (n : Int) (a : Al) : Int := if n ≤ 3000 then n + szE a.e else n
def addR (n : Int) (r : Rl) : Int := r.alts.foldl addA n
def grN8 (rs : List Rl) : Int := rs.foldl addR rs.length
def great (g : Gr) : Bool := decide (grN8 g.rules > 3000) || decide ((g.rules.length : Int) > 60)
theorem addA_stop {n : Int} (h : ¬ n ≤ 3000) (l : List Al) : l.foldl addA n = n := by
  induction l with
  | nil => rfl
  | cons a l ih => simp only [List.foldl_cons, addA, if_neg h]; exact ih
theorem addR_stop {n : Int} (h : ¬ n ≤ 3000) (l : List Rl) : l.foldl addR n = n := by
  induction l with
  | nil => rfl
  | cons a l ih => simp only [List.foldl_cons, addR, addA_stop h]; exact ih
theorem drop_foldl {T : Type} {f : Int → T → Int} {l : List T} {i : Nat} {x : T} (h : l[i]? = some x) (n : Int) : (l.drop i).foldl f n = (l.drop (i + 1)).foldl f (f n x) := by
  have hi := (List.getElem?_eq_some_iff.1 h).1
  rw [List.drop_eq_getElem_cons hi]
  have : l[i] = x := (List.getElem?_eq_some_iff.1 h).2
  rw [this]; rfl

theorem spec4 (g : Gr) (hg : grsz g ≤ 1000000000) : PCall Try.prog 4 [.agg (encGr g)] (.lit (.bool (great g))) := by
  have hlen : g.rules.length ≤ 1000000000 := by
    have := sum_len rsz rsz_pos g.rules
    simp only [grsz] at hg; omega
  refine PCall_intro Try.func4 rfl Try.ntmps4 (rs := [.tmp 2]) rfl (by simp) ?_
  simp only [Xaa, Xab, Xac, Xad, Xae, Xaf, Xag, Xah, Xai, Xaj, Xak, Xal, Xam, Xan, Xao, Xap, Xaq, Xar, Xas, Xat, Xau, Xav, Xaw, Xax, Xay, Xaz, Xba, Xbb, awl, Xbc, Xbd, Xbe, Xbf, Xbg, Xbh, Xbi, Xbj, Xbk, Xbl, Xbm, Xbn, Xbo, Xbp, Xbq, ne_eq, srcRows, awo, aggEq, eqF, litEq, andO, qwl, qwo, qOp, Xbr, Xbs, Xbt, lop, Yaa, Yab, Xbu, Xbv, Xbw, oneK, Xbx, Xby, Xbz, Xca, Xcb, Xcc, Xcd, Xce, Xcf, Xcg, Xch, stepOp, Xci, Xcj, Xck, pairO, pureOp, heapOp, entry, slotsOf, ev, evL, evP, evO, lk, up, St.put, St.drop, constAV, cellAV, cellsAV, plain, binV, intBin, strBin, guardBit, boolOf, fnOf, intOfAV, bound, resOf, retV, moved, rowOf, valAt, Kd.agg, AV.cells, splice, places, fillAV, rowsFill, Hp.none, Yac, Yad, Yae, Yaf, ↓reduceIte, reduceCtorEq, Nat.reduceLT, Nat.reduceEqDiff, Nat.reduceAdd, Nat.reduceLeDiff, Nat.reducePow, Nat.reduceMul, Yay, Yaz, Yag, Yah, Yai, Yaj, Yak, Yal, Yam, Yan, Yao, Yap, Yaq, Yar, Yas, Yat, Yau, Yav, Yaw, Yax, Ybc, Ybd, Yba, Ybb, Yzz, tyW, encGr, List.length_map]
  refine aw_loopC 1 (fun m σ => ∃ (i : Nat) (n : Int), i ≤ g.rules.length ∧ m = g.rules.length - i ∧ (g.rules.drop i).foldl addR n = grN8 g.rules ∧ 0 ≤ n ∧ n ≤ 1000000000 ∧ σ = ⟨[(1, .ptr 0 0), (3, .lit (.int .i64 n)), (4, .lit (.int .i64 i))], ⟨[(0, encGr g)], [], 1⟩, 56⟩)
    ?_ (σ' := ⟨[(1, .ptr 0 0), (3, .lit (.int .i64 g.rules.length)), (4, .lit (.int .i64 ((0 : Nat) : Int)))], ⟨[(0, encGr g)], [], 1⟩, 56⟩) (St.wk_slots (by simp [lk])) g.rules.length ⟨0, g.rules.length, Nat.zero_le _, by simp, rfl, by omega, by omega, rfl⟩ ?_
  · rintro m σ ⟨_, _, _, _, _, _, _, rfl⟩; rfl
  rintro m σ ⟨i, n, hi, rfl, hf, hn0, hn1, rfl⟩
  have hin : (0 : Int) ≤ (i : Int) := Int.natCast_nonneg i
  have fin : (g.rules.drop i).foldl addR n = n → n = grN8 g.rules := fun h => by rw [← hf, h]
  cases hc : decide ((i : Int) < (g.rules.length : Int))
  · have hil : i = g.rules.length := by have := of_decide_eq_false hc; omega
    have e : n = grN8 g.rules := fin (by rw [hil, List.drop_length]; rfl)
    unfold great
    rw [← e]
    simp only [Xaa, Xab, Xac, Xad, Xae, Xaf, Xag, Xah, Xai, Xaj, Xak, Xal, Xam, Xan, Xao, Xap, Xaq, Xar, Xas, Xat, Xau, Xav, Xaw, Xax, Xay, Xaz, Xba, Xbb, awl, Xbc, Xbd, Xbe, Xbf, Xbg, Xbh, Xbi, Xbj, Xbk, Xbl, Xbm, Xbn, Xbo, Xbp, Xbq, ne_eq, srcRows, awo, aggEq, eqF, litEq, andO, qwl, qwo, qOp, Xbr, Xbs, Xbt, lop, Yaa, Yab, Xbu, Xbv, Xbw, oneK, Xbx, Xby, Xbz, Xca, Xcb, Xcc, Xcd, Xce, Xcf, Xcg, Xch, stepOp, Xci, Xcj, Xck, pairO, pureOp, heapOp, entry, slotsOf, ev, evL, evP, evO, lk, up, St.put, St.drop, constAV, cellAV, cellsAV, plain, binV, intBin, strBin, guardBit, boolOf, fnOf, intOfAV, bound, resOf, retV, moved, rowOf, valAt, Kd.agg, AV.cells, splice, places, fillAV, rowsFill, Hp.none, Yac, Yad, Yae, Yaf, ↓reduceIte, reduceCtorEq, Nat.reduceLT, Nat.reduceEqDiff, Nat.reduceAdd, Nat.reduceLeDiff, Nat.reducePow, Nat.reduceMul, Yay, Yaz, Yag, Yah, Yai, Yaj, Yak, Yal, Yam, Yan, Yao, Yap, Yaq, Yar, Yas, Yat, Yau, Yav, Yaw, Yax, Ybc, Ybd, Yba, Ybb, Yzz, tyW, encGr, List.length_map, hc]
    cases h1 : decide (n > 3000)
    · simp only [Xaa, Xab, Xac, Xad, Xae, Xaf, Xag, Xah, Xai, Xaj, Xak, Xal, Xam, Xan, Xao, Xap, Xaq, Xar, Xas, Xat, Xau, Xav, Xaw, Xax, Xay, Xaz, Xba, Xbb, awl, Xbc, Xbd, Xbe, Xbf, Xbg, Xbh, Xbi, Xbj, Xbk, Xbl, Xbm, Xbn, Xbo, Xbp, Xbq, ne_eq, srcRows, awo, aggEq, eqF, litEq, andO, qwl, qwo, qOp, Xbr, Xbs, Xbt, lop, Yaa, Yab, Xbu, Xbv, Xbw, oneK, Xbx, Xby, Xbz, Xca, Xcb, Xcc, Xcd, Xce, Xcf, Xcg, Xch, stepOp, Xci, Xcj, Xck, pairO, pureOp, heapOp, entry, slotsOf, ev, evL, evP, evO, lk, up, St.put, St.drop, constAV, cellAV, cellsAV, plain, binV, intBin, strBin, guardBit, boolOf, fnOf, intOfAV, bound, resOf, retV, moved, rowOf, valAt, Kd.agg, AV.cells, splice, places, fillAV, rowsFill, Hp.none, Yac, Yad, Yae, Yaf, ↓reduceIte, reduceCtorEq, Nat.reduceLT, Nat.reduceEqDiff, Nat.reduceAdd, Nat.reduceLeDiff, Nat.reducePow, Nat.reduceMul, Yay, Yaz, Yag, Yah, Yai, Yaj, Yak, Yal, Yam, Yan, Yao, Yap, Yaq, Yar, Yas, Yat, Yau, Yav, Yaw, Yax, Ybc, Ybd, Yba, Ybb, Yzz, tyW, List.length_map, h1, Bool.false_or]
      exact expo_pure (.lit _)
    · simp only [Xaa, Xab, Xac, Xad, Xae, Xaf, Xag, Xah, Xai, Xaj, Xak, Xal, Xam, Xan, Xao, Xap, Xaq, Xar, Xas, Xat, Xau, Xav, Xaw, Xax, Xay, Xaz, Xba, Xbb, awl, Xbc, Xbd, Xbe, Xbf, Xbg, Xbh, Xbi, Xbj, Xbk, Xbl, Xbm, Xbn, Xbo, Xbp, Xbq, ne_eq, srcRows, awo, aggEq, eqF, litEq, andO, qwl, qwo, qOp, Xbr, Xbs, Xbt, lop, Yaa, Yab, Xbu, Xbv, Xbw, oneK, Xbx, Xby, Xbz, Xca, Xcb, Xcc, Xcd, Xce, Xcf, Xcg, Xch, stepOp, Xci, Xcj, Xck, pairO, pureOp, heapOp, entry, slotsOf, ev, evL, evP, evO, lk, up, St.put, St.drop, constAV, cellAV, cellsAV, plain, binV, intBin, strBin, guardBit, boolOf, fnOf, intOfAV, bound, resOf, retV, moved, rowOf, valAt, Kd.agg, AV.cells, splice, places, fillAV, rowsFill, Hp.none, Yac, Yad, Yae, Yaf, ↓reduceIte, reduceCtorEq, Nat.reduceLT, Nat.reduceEqDiff, Nat.reduceAdd, Nat.reduceLeDiff, Nat.reducePow, Nat.reduceMul, Yay, Yaz, Yag, Yah, Yai, Yaj, Yak, Yal, Yam, Yan, Yao, Yap, Yaq, Yar, Yas, Yat, Yau, Yav, Yaw, Yax, Ybc, Ybd, Yba, Ybb, Yzz, tyW, h1, Bool.true_or]
      exact expo_pure (.lit _)
  · have hi1 : (i : Int) < (g.rules.length : Int) := of_decide_eq_true hc
    cases hs : decide (n ≤ 3000)
    · have hns := of_decide_eq_false hs
      have e : n = grN8 g.rules := fin (addR_stop hns _)
      unfold great
      rw [← e]
      have h1 : decide (n > 3000) = true := decide_eq_true (by omega)
      simp only [Xaa, Xab, Xac, Xad, Xae, Xaf, Xag, Xah, Xai, Xaj, Xak, Xal, Xam, Xan, Xao, Xap, Xaq, Xar, Xas, Xat, Xau, Xav, Xaw, Xax, Xay, Xaz, Xba, Xbb, awl, Xbc, Xbd, Xbe, Xbf, Xbg, Xbh, Xbi, Xbj, Xbk, Xbl, Xbm, Xbn, Xbo, Xbp, Xbq, ne_eq, srcRows, awo, aggEq, eqF, litEq, andO, qwl, qwo, qOp, Xbr, Xbs, Xbt, lop, Yaa, Yab, Xbu, Xbv, Xbw, oneK, Xbx, Xby, Xbz, Xca, Xcb, Xcc, Xcd, Xce, Xcf, Xcg, Xch, stepOp, Xci, Xcj, Xck, pairO, pureOp, heapOp, entry, slotsOf, ev, evL, evP, evO, lk, up, St.put, St.drop, constAV, cellAV, cellsAV, plain, binV, intBin, strBin, guardBit, boolOf, fnOf, intOfAV, bound, resOf, retV, moved, rowOf, valAt, Kd.agg, AV.cells, splice, places, fillAV, rowsFill, Hp.none, Yac, Yad, Yae, Yaf, ↓reduceIte, reduceCtorEq, Nat.reduceLT, Nat.reduceEqDiff, Nat.reduceAdd, Nat.reduceLeDiff, Nat.reducePow, Nat.reduceMul, Yay, Yaz, Yag, Yah, Yai, Yaj, Yak, Yal, Yam, Yan, Yao, Yap, Yaq, Yar, Yas, Yat, Yau, Yav, Yaw, Yax, Ybc, Ybd, Yba, Ybb, Yzz, tyW, encGr, List.length_map, hc, hs, h1, Bool.true_or]
      exact expo_pure (.lit _)
    · have hns := of_decide_eq_true hs
      obtain ⟨r, hr⟩ : ∃ r, g.rules[i]? = some r := ⟨_, List.getElem?_eq_getElem (by omega)⟩
      have hm : r ∈ g.rules := List.mem_of_getElem? hr
      have g1 := map_getD encRl hr
      have ra : r.alts.length ≤ 1000000000 := by
        have h1 := sum_len asz asz_pos r.alts
        have h2 := rsz_mem hm
        simp only [grsz] at hg; simp only [rsz] at h2; omega
      simp only [Xaa, Xab, Xac, Xad, Xae, Xaf, Xag, Xah, Xai, Xaj, Xak, Xal, Xam, Xan, Xao, Xap, Xaq, Xar, Xas, Xat, Xau, Xav, Xaw, Xax, Xay, Xaz, Xba, Xbb, awl, Xbc, Xbd, Xbe, Xbf, Xbg, Xbh, Xbi, Xbj, Xbk, Xbl, Xbm, Xbn, Xbo, Xbp, Xbq, ne_eq, srcRows, awo, aggEq, eqF, litEq, andO, qwl, qwo, qOp, Xbr, Xbs, Xbt, lop, Yaa, Yab, Xbu, Xbv, Xbw, oneK, Xbx, Xby, Xbz, Xca, Xcb, Xcc, Xcd, Xce, Xcf, Xcg, Xch, stepOp, Xci, Xcj, Xck, pairO, pureOp, heapOp, entry, slotsOf, ev, evL, evP, evO, lk, up, St.put, St.drop, constAV, cellAV, cellsAV, plain, binV, intBin, strBin, guardBit, boolOf, fnOf, intOfAV, bound, resOf, retV, moved, rowOf, valAt, Kd.agg, AV.cells, splice, places, fillAV, rowsFill, Hp.none, Yac, Yad, Yae, Yaf, ↓reduceIte, reduceCtorEq, Nat.reduceLT, Nat.reduceEqDiff, Nat.reduceAdd, Nat.reduceLeDiff, Nat.reducePow, Nat.reduceMul, Yay, Yaz, Yag, Yah, Yai, Yaj, Yak, Yal, Yam, Yan, Yao, Yap, Yaq, Yar, Yas, Yat, Yau, Yav, Yaw, Yax, Ybc, Ybd, Yba, Ybb, Yzz, tyW, encGr, List.length_map, hc, hs]
      refine aw_loopC 1 (fun m σ => ∃ (k : Nat) (n' : Int), k ≤ r.alts.length ∧ m = r.alts.length - k ∧ (r.alts.drop k).foldl addA n' = addR n r ∧ 0 ≤ n' ∧ n' ≤ 1000000000 ∧ σ = ⟨[(1, .ptr 0 0), (3, .lit (.int .i64 n')), (4, .lit (.int .i64 i)), (5, .lit (.int .i64 k))], ⟨[(0, encGr g)], [], 1⟩, 56⟩)
        ?_ (σ' := ⟨[(1, .ptr 0 0), (3, .lit (.int .i64 n)), (4, .lit (.int .i64 i)), (5, .lit (.int .i64 ((0 : Nat) : Int)))], ⟨[(0, encGr g)], [], 1⟩, 56⟩) (St.wk_slots (by simp [lk])) r.alts.length ⟨0, n, Nat.zero_le _, by simp, rfl, by omega, by omega, rfl⟩ ?_
      · rintro m σ ⟨_, _, _, _, _, _, _, rfl⟩; rfl
      rintro m σ ⟨k, n', hk, rfl, hf', hn0', hn1', rfl⟩
      have hkn : (0 : Int) ≤ (k : Int) := Int.natCast_nonneg k
      have next : (r.alts.drop k).foldl addA n' = n' → (g.rules.drop (i + 1)).foldl addR n' = grN8 g.rules := fun h => by
        rw [← hf, drop_foldl hr, ← hf', h]
      cases hc' : decide ((k : Int) < (r.alts.length : Int))
      · have hkl : k = r.alts.length := by have := of_decide_eq_false hc'; omega
        have nx := next (by rw [hkl, List.drop_length]; rfl)
        simp (disch := omega) only [Xaa, Xab, Xac, Xad, Xae, Xaf, Xag, Xah, Xai, Xaj, Xak, Xal, Xam, Xan, Xao, Xap, Xaq, Xar, Xas, Xat, Xau, Xav, Xaw, Xax, Xay, Xaz, Xba, Xbb, awl, Xbc, Xbd, Xbe, Xbf, Xbg, Xbh, Xbi, Xbj, Xbk, Xbl, Xbm, Xbn, Xbo, Xbp, Xbq, ne_eq, srcRows, awo, aggEq, eqF, litEq, andO, qwl, qwo, qOp, Xbr, Xbs, Xbt, lop, Yaa, Yab, Xbu, Xbv, Xbw, oneK, Xbx, Xby, Xbz, Xca, Xcb, Xcc, Xcd, Xce, Xcf, Xcg, Xch, stepOp, Xci, Xcj, Xck, pairO, pureOp, heapOp, entry, slotsOf, ev, evL, evP, evO, lk, up, St.put, St.drop, constAV, cellAV, cellsAV, plain, binV, intBin, strBin, guardBit, boolOf, fnOf, intOfAV, bound, resOf, retV, moved, rowOf, valAt, Kd.agg, AV.cells, splice, places, fillAV, rowsFill, Hp.none, Yac, Yad, Yae, Yaf, ↓reduceIte, reduceCtorEq, Nat.reduceLT, Nat.reduceEqDiff, Nat.reduceAdd, Nat.reduceLeDiff, Nat.reducePow, Nat.reduceMul, Yay, Yaz, Yag, Yah, Yai, Yaj, Yak, Yal, Yam, Yan, Yao, Yap, Yaq, Yar, Yas, Yat, Yau, Yav, Yaw, Yax, Ybc, Ybd, Yba, Ybb, Yzz, tyW, encGr, List.length_map, hin, hi1, Int.toNat_natCast, g1, encRl_length, encRl, hc', i64w]
        exact ⟨_, g.rules.length - (i + 1), St.wk.cp (St.wk_slots (by simp [lk])), by omega, i + 1, n', by omega, rfl, nx, hn0', hn1', rfl⟩
      · cases hs' : decide (n' ≤ 3000)
        · have nx := next (addA_stop (of_decide_eq_false hs') _)
          simp (disch := omega) only [Xaa, Xab, Xac, Xad, Xae, Xaf, Xag, Xah, Xai, Xaj, Xak, Xal, Xam, Xan, Xao, Xap, Xaq, Xar, Xas, Xat, Xau, Xav, Xaw, Xax, Xay, Xaz, Xba, Xbb, awl, Xbc, Xbd, Xbe, Xbf, Xbg, Xbh, Xbi, Xbj, Xbk, Xbl, Xbm, Xbn, Xbo, Xbp, Xbq, ne_eq, srcRows, awo, aggEq, eqF, litEq, andO, qwl, qwo, qOp, Xbr, Xbs, Xbt, lop, Yaa, Yab, Xbu, Xbv, Xbw, oneK, Xbx, Xby, Xbz, Xca, Xcb, Xcc, Xcd, Xce, Xcf, Xcg, Xch, stepOp, Xci, Xcj, Xck, pairO, pureOp, heapOp, entry, slotsOf, ev, evL, evP, evO, lk, up, St.put, St.drop, constAV, cellAV, cellsAV, plain, binV, intBin, strBin, guardBit, boolOf, fnOf, intOfAV, bound, resOf, retV, moved, rowOf, valAt, Kd.agg, AV.cells, splice, places, fillAV, rowsFill, Hp.none, Yac, Yad, Yae, Yaf, ↓reduceIte, reduceCtorEq, Nat.reduceLT, Nat.reduceEqDiff, Nat.reduceAdd, Nat.reduceLeDiff, Nat.reducePow, Nat.reduceMul, Yay, Yaz, Yag, Yah, Yai, Yaj, Yak, Yal, Yam, Yan, Yao, Yap, Yaq, Yar, Yas, Yat, Yau, Yav, Yaw, Yax, Ybc, Ybd, Yba, Ybb, Yzz, tyW, encGr, List.length_map, hin, hi1, Int.toNat_natCast, g1, encRl_length, encRl, hc', hs', i64w]
          exact ⟨_, g.rules.length - (i + 1), St.wk.cp (St.wk_slots (by simp [lk])), by omega, i + 1, n', by omega, rfl, nx, hn0', hn1', rfl⟩
        · have hk1 := of_decide_eq_true hc'
          have hns' := of_decide_eq_true hs'
          obtain ⟨al, hal⟩ : ∃ al, r.alts[k]? = some al := ⟨_, List.getElem?_eq_getElem (by omega)⟩
          have ham : al ∈ r.alts := List.mem_of_getElem? hal
          have g2 := map_getD encA hal
          have hae : esz al.e ≤ 1000000000 := by
            have h1 := asz_mem ham; have h2 := rsz_mem hm; simp only [grsz] at hg; simp only [rsz] at h2; simp only [asz] at h1; omega
          have hb := szE_bd al.e
          have ha : addA n' al = n' + szE al.e := by simp [addA, hns']
          have hnx := drop_foldl (f := addA) hal n'
          rw [hf', ha] at hnx
          rcases al with ⟨⟨op, name, set, lz, ⟨gop, gn, gname, gkids⟩, kids, level, place⟩, right, cmds, pl⟩
          simp only [encA] at g2
          simp only [Xaa, Xab, Xac, Xad, Xae, Xaf, Xag, Xah, Xai, Xaj, Xak, Xal, Xam, Xan, Xao, Xap, Xaq, Xar, Xas, Xat, Xau, Xav, Xaw, Xax, Xay, Xaz, Xba, Xbb, awl, Xbc, Xbd, Xbe, Xbf, Xbg, Xbh, Xbi, Xbj, Xbk, Xbl, Xbm, Xbn, Xbo, Xbp, Xbq, ne_eq, srcRows, awo, aggEq, eqF, litEq, andO, qwl, qwo, qOp, Xbr, Xbs, Xbt, lop, Yaa, Yab, Xbu, Xbv, Xbw, oneK, Xbx, Xby, Xbz, Xca, Xcb, Xcc, Xcd, Xce, Xcf, Xcg, Xch, stepOp, Xci, Xcj, Xck, pairO, pureOp, heapOp, entry, slotsOf, ev, evL, evP, evO, lk, up, St.put, St.drop, constAV, cellAV, cellsAV, plain, binV, intBin, strBin, guardBit, boolOf, fnOf, intOfAV, bound, resOf, retV, moved, rowOf, valAt, Kd.agg, AV.cells, splice, places, fillAV, rowsFill, Hp.none, Yac, Yad, Yae, Yaf, ↓reduceIte, reduceCtorEq, Nat.reduceLT, Nat.reduceEqDiff, Nat.reduceAdd, Nat.reduceLeDiff, Nat.reducePow, Nat.reduceMul, Yay, Yaz, Yag, Yah, Yai, Yaj, Yak, Yal, Yam, Yan, Yao, Yap, Yaq, Yar, Yas, Yat, Yau, Yav, Yaw, Yax, Ybc, Ybd, Yba, Ybb, Yzz, tyW, encGr, List.length_map, hin, hi1, Int.toNat_natCast, g1, encRl_length, encRl, hc', hs', g2, hkn, hk1, decide_true]
          refine CallK_pure call5 (spec5 (.mk op name set lz ⟨gop, gn, gname, gkids⟩ kids level place) hae) (by intro a ha; rcases List.mem_singleton.1 ha with rfl; exact pureE (.mk op name set lz ⟨gop, gn, gname, gkids⟩ kids level place)) (.lit _) ?_
          simp only at hb hnx
          simp (disch := omega) only [Xaa, Xab, Xac, Xad, Xae, Xaf, Xag, Xah, Xai, Xaj, Xak, Xal, Xam, Xan, Xao, Xap, Xaq, Xar, Xas, Xat, Xau, Xav, Xaw, Xax, Xay, Xaz, Xba, Xbb, awl, Xbc, Xbd, Xbe, Xbf, Xbg, Xbh, Xbi, Xbj, Xbk, Xbl, Xbm, Xbn, Xbo, Xbp, Xbq, ne_eq, srcRows, awo, aggEq, eqF, litEq, andO, qwl, qwo, qOp, Xbr, Xbs, Xbt, lop, Yaa, Yab, Xbu, Xbv, Xbw, oneK, Xbx, Xby, Xbz, Xca, Xcb, Xcc, Xcd, Xce, Xcf, Xcg, Xch, stepOp, Xci, Xcj, Xck, pairO, pureOp, heapOp, entry, slotsOf, ev, evL, evP, evO, lk, up, St.put, St.drop, constAV, cellAV, cellsAV, plain, binV, intBin, strBin, guardBit, boolOf, fnOf, intOfAV, bound, resOf, retV, moved, rowOf, valAt, Kd.agg, AV.cells, splice, places, fillAV, rowsFill, Hp.none, Yac, Yad, Yae, Yaf, ↓reduceIte, reduceCtorEq, Nat.reduceLT, Nat.reduceEqDiff, Nat.reduceAdd, Nat.reduceLeDiff, Nat.reducePow, Nat.reduceMul, Yay, Yaz, Yag, Yah, Yai, Yaj, Yak, Yal, Yam, Yan, Yao, Yap, Yaq, Yar, Yas, Yat, Yau, Yav, Yaw, Yax, Ybc, Ybd, Yba, Ybb, Yzz, tyW, i64w]
          exact ⟨_, r.alts.length - (k + 1), St.wk.cp (St.wk_slots (by simp [lk])), by omega, k + 1, _, by omega, rfl, hnx.symm, by omega, by omega, rfl⟩
end Go.Proofs.Ytogdlomemaoajaa
