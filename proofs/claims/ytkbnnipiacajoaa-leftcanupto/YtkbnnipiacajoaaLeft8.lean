/- Contracts: an element's last name set at a level; what stands behind the first name. Conditions: those that each theorem names. -/
import Derived.Test.YtkbnnipiacajoaaLeft7
namespace Go.Proofs.Ytkbnnipiacajoaa
open Go.Ab
set_option linter.unusedSimpArgs false
set_option linter.unusedVariables false
set_option maxRecDepth 20000

/-- An element at a level. -/
def lvE (lvl : Int) : El → El
  | .mk op name set lz g kids _ place => .mk op name set lz g kids lvl place
def lastK (s : ByteArray) (lvl : Int) (kids : List El) : List El :=
  match kids[kids.length - 1]? with
  | some k => if isN s k then kids.set (kids.length - 1) (lvE lvl k) else kids
  | none => kids
/-- Its last name at a level. -/
def lastE (s : ByteArray) (lvl : Int) : El → El
  | .mk op name set lz g kids level place => if isN s (.mk op name set lz g kids level place) then .mk op name set lz g kids lvl place else .mk op name set lz g (if op == 5 then lastK s lvl kids else kids) level place

/-- A row that may be owned, and its element. -/
def isQ (kids : List El) : Hp := ⟨[], grT 0 11 (kids.map encE), grN 0 (kids.map encE)⟩
theorem is_own (s : ByteArray) (e : El) : SCall Try.prog 34 [.lit (.string s), .agg (encK (grA 0 (e.kids.map encE)) e)] (isQ e.kids) (fun r h' => r = .lit (.bool (isN s e)) ∧ h' = isQ e.kids) := by
  rcases e with ⟨op, name, set, lz, ⟨gop, gn, gname, gkids⟩, kids, level, place⟩
  have e0 : isN s (.mk op name set lz ⟨gop, gn, gname, gkids⟩ kids level place) = (op == 0 && (name.toList == s.toList)) := rfl
  rw [e0]
  show SCall Try.prog _ [_, .agg (encK (grA 0 (kids.map encE)) _)] (isQ kids) fun r h' => _ ∧ h' = isQ kids
  cases kids with
  | nil =>
    refine SCall_introC Try.func34 rfl Try.ntmps34 (rs := [.tmp 4]) rfl (by simp) (N := 0) rfl ?_
    simp only [Xaa, Xab, Xac, Xad, Xae, Xaf, Xag, Xah, Xai, Xaj, Xak, Xal, Xam, Xan, Xao, Xap, Xaq, Xar, Xas, Xat, Xau, Xav, Xaw, Xax, Xay, Xaz, Xba, Xbb, awl, Xbc, Xbd, Xbe, Xbf, Xbg, Xbh, Xbi, Xbj, Xbk, Xbl, Xbm, Xbn, Xbo, Xbp, Xbq, ne_eq, srcRows, awo, aggEq, eqF, litEq, andO, qwl, qwo, qOp, Xbr, Xbs, Xbt, lop, Yaa, Yab, Xbu, Xbv, Xbw, oneK, Xbx, Xby, Xbz, Xca, Xcb, Xcc, Xcd, Xce, Xcf, Xcg, Xch, stepOp, Xci, Xcj, Xck, pairO, pureOp, heapOp, entry, slotsOf, ev, evL, evP, evO, lk, up, St.put, St.drop, constAV, cellAV, cellsAV, plain, binV, intBin, strBin, guardBit, boolOf, fnOf, intOfAV, bound, resOf, retV, moved, rowOf, valAt, Kd.agg, AV.cells, splice, places, fillAV, rowsFill, Hp.none, Yac, Yad, Yae, Yaf, ↓reduceIte, reduceCtorEq, Nat.reduceLT, Nat.reduceEqDiff, Nat.reduceAdd, Nat.reduceLeDiff, Nat.reducePow, Nat.reduceMul, Yay, Yaz, Yag, Yah, Yai, Yaj, Yak, Yal, Yam, Yan, Yao, Yap, Yaq, Yar, Yas, Yat, Yau, Yav, Yaw, Yax, Ybc, Ybd, Yba, Ybb, Yzz, tyW, encK, isQ, grA, grT, grN, List.map_nil]
    cases h0 : (op == 0) <;> simp only [Xaa, Xab, Xac, Xad, Xae, Xaf, Xag, Xah, Xai, Xaj, Xak, Xal, Xam, Xan, Xao, Xap, Xaq, Xar, Xas, Xat, Xau, Xav, Xaw, Xax, Xay, Xaz, Xba, Xbb, awl, Xbc, Xbd, Xbe, Xbf, Xbg, Xbh, Xbi, Xbj, Xbk, Xbl, Xbm, Xbn, Xbo, Xbp, Xbq, ne_eq, srcRows, awo, aggEq, eqF, litEq, andO, qwl, qwo, qOp, Xbr, Xbs, Xbt, lop, Yaa, Yab, Xbu, Xbv, Xbw, oneK, Xbx, Xby, Xbz, Xca, Xcb, Xcc, Xcd, Xce, Xcf, Xcg, Xch, stepOp, Xci, Xcj, Xck, pairO, pureOp, heapOp, entry, slotsOf, ev, evL, evP, evO, lk, up, St.put, St.drop, constAV, cellAV, cellsAV, plain, binV, intBin, strBin, guardBit, boolOf, fnOf, intOfAV, bound, resOf, retV, moved, rowOf, valAt, Kd.agg, AV.cells, splice, places, fillAV, rowsFill, Hp.none, Yac, Yad, Yae, Yaf, ↓reduceIte, reduceCtorEq, Nat.reduceLT, Nat.reduceEqDiff, Nat.reduceAdd, Nat.reduceLeDiff, Nat.reducePow, Nat.reduceMul, Yay, Yaz, Yag, Yah, Yai, Yaj, Yak, Yal, Yam, Yan, Yao, Yap, Yaq, Yar, Yas, Yat, Yau, Yav, Yaw, Yax, Ybc, Ybd, Yba, Ybb, Yzz, tyW, Bool.false_and, Bool.true_and]
    all_goals exact ret1 4 ⟨alln, alln⟩ rfl (by show 0 ≤ 1; decide) rfl (.pure (.lit _)) (by simp) (by simp)
  | cons y l =>
    refine SCall_introC Try.func34 rfl Try.ntmps34 (rs := [.tmp 4]) rfl (by simp) (N := 1) rfl ?_
    simp only [Xaa, Xab, Xac, Xad, Xae, Xaf, Xag, Xah, Xai, Xaj, Xak, Xal, Xam, Xan, Xao, Xap, Xaq, Xar, Xas, Xat, Xau, Xav, Xaw, Xax, Xay, Xaz, Xba, Xbb, awl, Xbc, Xbd, Xbe, Xbf, Xbg, Xbh, Xbi, Xbj, Xbk, Xbl, Xbm, Xbn, Xbo, Xbp, Xbq, ne_eq, srcRows, awo, aggEq, eqF, litEq, andO, qwl, qwo, qOp, Xbr, Xbs, Xbt, lop, Yaa, Yab, Xbu, Xbv, Xbw, oneK, Xbx, Xby, Xbz, Xca, Xcb, Xcc, Xcd, Xce, Xcf, Xcg, Xch, stepOp, Xci, Xcj, Xck, pairO, pureOp, heapOp, entry, slotsOf, ev, evL, evP, evO, lk, up, St.put, St.drop, constAV, cellAV, cellsAV, plain, binV, intBin, strBin, guardBit, boolOf, fnOf, intOfAV, bound, resOf, retV, moved, rowOf, valAt, Kd.agg, AV.cells, splice, places, fillAV, rowsFill, Hp.none, Yac, Yad, Yae, Yaf, ↓reduceIte, reduceCtorEq, Nat.reduceLT, Nat.reduceEqDiff, Nat.reduceAdd, Nat.reduceLeDiff, Nat.reducePow, Nat.reduceMul, Yay, Yaz, Yag, Yah, Yai, Yaj, Yak, Yal, Yam, Yan, Yao, Yap, Yaq, Yar, Yas, Yat, Yau, Yav, Yaw, Yax, Ybc, Ybd, Yba, Ybb, Yzz, tyW, encK, isQ, grA, grT, grN, List.map_cons]
    cases h0 : (op == 0) <;> simp only [Xaa, Xab, Xac, Xad, Xae, Xaf, Xag, Xah, Xai, Xaj, Xak, Xal, Xam, Xan, Xao, Xap, Xaq, Xar, Xas, Xat, Xau, Xav, Xaw, Xax, Xay, Xaz, Xba, Xbb, awl, Xbc, Xbd, Xbe, Xbf, Xbg, Xbh, Xbi, Xbj, Xbk, Xbl, Xbm, Xbn, Xbo, Xbp, Xbq, ne_eq, srcRows, awo, aggEq, eqF, litEq, andO, qwl, qwo, qOp, Xbr, Xbs, Xbt, lop, Yaa, Yab, Xbu, Xbv, Xbw, oneK, Xbx, Xby, Xbz, Xca, Xcb, Xcc, Xcd, Xce, Xcf, Xcg, Xch, stepOp, Xci, Xcj, Xck, pairO, pureOp, heapOp, entry, slotsOf, ev, evL, evP, evO, lk, up, St.put, St.drop, constAV, cellAV, cellsAV, plain, binV, intBin, strBin, guardBit, boolOf, fnOf, intOfAV, bound, resOf, retV, moved, rowOf, valAt, Kd.agg, AV.cells, splice, places, fillAV, rowsFill, Hp.none, Yac, Yad, Yae, Yaf, ↓reduceIte, reduceCtorEq, Nat.reduceLT, Nat.reduceEqDiff, Nat.reduceAdd, Nat.reduceLeDiff, Nat.reducePow, Nat.reduceMul, Yay, Yaz, Yag, Yah, Yai, Yaj, Yak, Yal, Yam, Yan, Yao, Yap, Yaq, Yar, Yas, Yat, Yau, Yav, Yaw, Yax, Ybc, Ybd, Yba, Ybb, Yzz, tyW, Bool.false_and, Bool.true_and]
    all_goals exact ret1 4 ⟨alln, allc ⟨by show 0 < 1; decide, .pure (pure_rows pure_encE (y :: l))⟩ alln⟩ rfl (by show 1 ≤ 2; decide) rfl (.pure (.lit _)) (by simp) (by simp [lk])

/-- In any heap. -/
theorem is_own_at (s : ByteArray) (e : El) {H : Hp} {t : Nat} (hp : e.kids ≠ [] → lk H.toks t = some ⟨e.kids.map encE, 0, 11⟩ ∧ t < H.nx) : QCall Try.prog 34 ([.lit (.string s)] ++ [.agg (encK (grA t (e.kids.map encE)) e)] ++ []) H (.lit (.bool (isN s e))) := by
  have base := is_own s e
  cases hk : e.kids with
  | nil =>
    rw [hk] at base
    refine QCall.sub (hs := isQ []) (av := [.lit (.string s), .agg (encK (.vec [] true) e)]) [] rfl List.nodup_nil (by simp) (.cons (.pure (.lit _)) (.cons (.pure (.agg (pure_encK e (.vec (by simp))))) .nil)) alln alln (fun i hi => absurd hi (Nat.not_lt_zero _)) base (.pure (.lit _))
  | cons y l =>
    rw [hk] at base hp
    obtain ⟨h1, h2⟩ := hp (by simp)
    refine QCall.sub (hs := isQ (y :: l)) (av := [.lit (.string s), .agg (encK (.own 0 ((l.map encE).length + 1)) e)]) [t] rfl (by simp) (by simpa using h2) (.cons (.pure (.lit _)) (.cons (.agg (rnL_encK e (.own (by show 0 < 1; decide) rfl))) .nil)) alln
      (allc ⟨by show 0 < 1; decide, _, h1, rfl, rfl, .pure (pure_rows pure_encE (y :: l))⟩ alln) (fun i hi hn => ?_) base (.pure (.lit _))
    have hi : i < 1 := hi
    match i, hi, hn with
    | 0, _, hn => simp [isQ, grT, lk] at hn

/-- A branch's variable. -/
def brH (A V : Int) (e : El) (kids : List El) : Hp := ⟨[(0, .lit (.int .i64 A) :: .lit (.int .i64 V) :: encK (grA 1 (kids.map encE)) e)], grT 1 11 (kids.map encE), grN 1 (kids.map encE)⟩
theorem splice_lv (e : El) (lvl : Int) : (encE e).take 9 ++ [.lit (.int .i64 lvl)] ++ (encE e).drop 10 = encE (lvE lvl e) := by
  rcases e with ⟨op, name, set, lz, ⟨gop, gn, gname, gkids⟩, kids, level, place⟩; rfl

theorem last_spec (s : ByteArray) (A V lvl : Int) (e : El) (he : esz e ≤ 1000000000) : SCall Try.prog 33 [.ptr 0 2, .fn (.func 34) [.lit (.string s)] [], .lit (.int .i64 lvl)] (brH A V e e.kids) (fun r h' => r = .tup [] ∧ h' = brH A V (lastE s lvl e) (lastE s lvl e).kids) := by
  rcases e with ⟨op, name, set, lz, ⟨gop, gn, gname, gkids⟩, kids, level, place⟩
  have hlen : kids.length ≤ 1000000000 := by have := eszs_len kids; simp only [esz] at he; omega
  suffices h : ∀ Q : AV → Hp → Prop, Q (.tup []) (brH A V (lastE s lvl (.mk op name set lz ⟨gop, gn, gname, gkids⟩ kids level place)) (lastE s lvl (.mk op name set lz ⟨gop, gn, gname, gkids⟩ kids level place)).kids) → SCall Try.prog 33 [.ptr 0 2, .fn (.func 34) [.lit (.string s)] [], .lit (.int .i64 lvl)] (brH A V (.mk op name set lz ⟨gop, gn, gname, gkids⟩ kids level place) kids) Q from h _ ⟨rfl, rfl⟩
  intro Q hQ
  have io := fun (H : Hp) (t : Nat) hp => is_own_at s (.mk op name set lz ⟨gop, gn, gname, gkids⟩ kids level place) (H := H) (t := t) hp
  simp only [El.kids] at io
  cases kids with
  | nil =>
    refine SCall_introC Try.func33 rfl Try.ntmps33 (rs := []) rfl (by simp) (N := 1) rfl ?_
    simp only [Xaa, Xab, Xac, Xad, Xae, Xaf, Xag, Xah, Xai, Xaj, Xak, Xal, Xam, Xan, Xao, Xap, Xaq, Xar, Xas, Xat, Xau, Xav, Xaw, Xax, Xay, Xaz, Xba, Xbb, awl, Xbc, Xbd, Xbe, Xbf, Xbg, Xbh, Xbi, Xbj, Xbk, Xbl, Xbm, Xbn, Xbo, Xbp, Xbq, ne_eq, srcRows, awo, aggEq, eqF, litEq, andO, qwl, qwo, qOp, Xbr, Xbs, Xbt, lop, Yaa, Yab, Xbu, Xbv, Xbw, oneK, Xbx, Xby, Xbz, Xca, Xcb, Xcc, Xcd, Xce, Xcf, Xcg, Xch, stepOp, Xci, Xcj, Xck, pairO, pureOp, heapOp, entry, slotsOf, ev, evL, evP, evO, lk, up, St.put, St.drop, constAV, cellAV, cellsAV, plain, binV, intBin, strBin, guardBit, boolOf, fnOf, intOfAV, bound, resOf, retV, moved, rowOf, valAt, Kd.agg, AV.cells, splice, places, fillAV, rowsFill, Hp.none, Yac, Yad, Yae, Yaf, ↓reduceIte, reduceCtorEq, Nat.reduceLT, Nat.reduceEqDiff, Nat.reduceAdd, Nat.reduceLeDiff, Nat.reducePow, Nat.reduceMul, Yay, Yaz, Yag, Yah, Yai, Yaj, Yak, Yal, Yam, Yan, Yao, Yap, Yaq, Yar, Yas, Yat, Yau, Yav, Yaw, Yax, Ybc, Ybd, Yba, Ybb, Yzz, tyW, encK, brH, grA, grT, grN, List.map_nil]
    refine CallK_of call34 (io _ 0 (fun h => absurd rfl h)) ?_
    rintro r' h' ⟨rfl, rfl⟩
    simp only [Xaa, Xab, Xac, Xad, Xae, Xaf, Xag, Xah, Xai, Xaj, Xak, Xal, Xam, Xan, Xao, Xap, Xaq, Xar, Xas, Xat, Xau, Xav, Xaw, Xax, Xay, Xaz, Xba, Xbb, awl, Xbc, Xbd, Xbe, Xbf, Xbg, Xbh, Xbi, Xbj, Xbk, Xbl, Xbm, Xbn, Xbo, Xbp, Xbq, ne_eq, srcRows, awo, aggEq, eqF, litEq, andO, qwl, qwo, qOp, Xbr, Xbs, Xbt, lop, Yaa, Yab, Xbu, Xbv, Xbw, oneK, Xbx, Xby, Xbz, Xca, Xcb, Xcc, Xcd, Xce, Xcf, Xcg, Xch, stepOp, Xci, Xcj, Xck, pairO, pureOp, heapOp, entry, slotsOf, ev, evL, evP, evO, lk, up, St.put, St.drop, constAV, cellAV, cellsAV, plain, binV, intBin, strBin, guardBit, boolOf, fnOf, intOfAV, bound, resOf, retV, moved, rowOf, valAt, Kd.agg, AV.cells, splice, places, fillAV, rowsFill, Hp.none, Yac, Yad, Yae, Yaf, ↓reduceIte, reduceCtorEq, Nat.reduceLT, Nat.reduceEqDiff, Nat.reduceAdd, Nat.reduceLeDiff, Nat.reducePow, Nat.reduceMul, Yay, Yaz, Yag, Yah, Yai, Yaj, Yak, Yal, Yam, Yan, Yao, Yap, Yaq, Yar, Yas, Yat, Yau, Yav, Yaw, Yax, Ybc, Ybd, Yba, Ybb, Yzz, tyW]
    cases hb : isN s (.mk op name set lz ⟨gop, gn, gname, gkids⟩ [] level place)
    · have hr : lastE s lvl (.mk op name set lz ⟨gop, gn, gname, gkids⟩ [] level place) = .mk op name set lz ⟨gop, gn, gname, gkids⟩ [] level place := by simp [lastE, hb, lastK]
      rw [hr] at hQ
      have z1 : decide (((0 : Nat) : Int) > 0) = false := by decide
      simp only [Xaa, Xab, Xac, Xad, Xae, Xaf, Xag, Xah, Xai, Xaj, Xak, Xal, Xam, Xan, Xao, Xap, Xaq, Xar, Xas, Xat, Xau, Xav, Xaw, Xax, Xay, Xaz, Xba, Xbb, awl, Xbc, Xbd, Xbe, Xbf, Xbg, Xbh, Xbi, Xbj, Xbk, Xbl, Xbm, Xbn, Xbo, Xbp, Xbq, ne_eq, srcRows, awo, aggEq, eqF, litEq, andO, qwl, qwo, qOp, Xbr, Xbs, Xbt, lop, Yaa, Yab, Xbu, Xbv, Xbw, oneK, Xbx, Xby, Xbz, Xca, Xcb, Xcc, Xcd, Xce, Xcf, Xcg, Xch, stepOp, Xci, Xcj, Xck, pairO, pureOp, heapOp, entry, slotsOf, ev, evL, evP, evO, lk, up, St.put, St.drop, constAV, cellAV, cellsAV, plain, binV, intBin, strBin, guardBit, boolOf, fnOf, intOfAV, bound, resOf, retV, moved, rowOf, valAt, Kd.agg, AV.cells, splice, places, fillAV, rowsFill, Hp.none, Yac, Yad, Yae, Yaf, ↓reduceIte, reduceCtorEq, Nat.reduceLT, Nat.reduceEqDiff, Nat.reduceAdd, Nat.reduceLeDiff, Nat.reducePow, Nat.reduceMul, Yay, Yaz, Yag, Yah, Yai, Yaj, Yak, Yal, Yam, Yan, Yao, Yap, Yaq, Yar, Yas, Yat, Yau, Yav, Yaw, Yax, Ybc, Ybd, Yba, Ybb, Yzz, tyW]
      cases h5 : (op == 5) <;> simp only [Xaa, Xab, Xac, Xad, Xae, Xaf, Xag, Xah, Xai, Xaj, Xak, Xal, Xam, Xan, Xao, Xap, Xaq, Xar, Xas, Xat, Xau, Xav, Xaw, Xax, Xay, Xaz, Xba, Xbb, awl, Xbc, Xbd, Xbe, Xbf, Xbg, Xbh, Xbi, Xbj, Xbk, Xbl, Xbm, Xbn, Xbo, Xbp, Xbq, ne_eq, srcRows, awo, aggEq, eqF, litEq, andO, qwl, qwo, qOp, Xbr, Xbs, Xbt, lop, Yaa, Yab, Xbu, Xbv, Xbw, oneK, Xbx, Xby, Xbz, Xca, Xcb, Xcc, Xcd, Xce, Xcf, Xcg, Xch, stepOp, Xci, Xcj, Xck, pairO, pureOp, heapOp, entry, slotsOf, ev, evL, evP, evO, lk, up, St.put, St.drop, constAV, cellAV, cellsAV, plain, binV, intBin, strBin, guardBit, boolOf, fnOf, intOfAV, bound, resOf, retV, moved, rowOf, valAt, Kd.agg, AV.cells, splice, places, fillAV, rowsFill, Hp.none, Yac, Yad, Yae, Yaf, ↓reduceIte, reduceCtorEq, Nat.reduceLT, Nat.reduceEqDiff, Nat.reduceAdd, Nat.reduceLeDiff, Nat.reducePow, Nat.reduceMul, Yay, Yaz, Yag, Yah, Yai, Yaj, Yak, Yal, Yam, Yan, Yao, Yap, Yaq, Yar, Yas, Yat, Yau, Yav, Yaw, Yax, Ybc, Ybd, Yba, Ybb, Yzz, tyW, z1] <;> exact ⟨_, St.wk.cp (St.wk.refl _), hQ⟩
    · have hr : lastE s lvl (.mk op name set lz ⟨gop, gn, gname, gkids⟩ [] level place) = .mk op name set lz ⟨gop, gn, gname, gkids⟩ [] lvl place := by simp [lastE, hb]
      rw [hr] at hQ
      simp only [Xaa, Xab, Xac, Xad, Xae, Xaf, Xag, Xah, Xai, Xaj, Xak, Xal, Xam, Xan, Xao, Xap, Xaq, Xar, Xas, Xat, Xau, Xav, Xaw, Xax, Xay, Xaz, Xba, Xbb, awl, Xbc, Xbd, Xbe, Xbf, Xbg, Xbh, Xbi, Xbj, Xbk, Xbl, Xbm, Xbn, Xbo, Xbp, Xbq, ne_eq, srcRows, awo, aggEq, eqF, litEq, andO, qwl, qwo, qOp, Xbr, Xbs, Xbt, lop, Yaa, Yab, Xbu, Xbv, Xbw, oneK, Xbx, Xby, Xbz, Xca, Xcb, Xcc, Xcd, Xce, Xcf, Xcg, Xch, stepOp, Xci, Xcj, Xck, pairO, pureOp, heapOp, entry, slotsOf, ev, evL, evP, evO, lk, up, St.put, St.drop, constAV, cellAV, cellsAV, plain, binV, intBin, strBin, guardBit, boolOf, fnOf, intOfAV, bound, resOf, retV, moved, rowOf, valAt, Kd.agg, AV.cells, splice, places, fillAV, rowsFill, Hp.none, Yac, Yad, Yae, Yaf, ↓reduceIte, reduceCtorEq, Nat.reduceLT, Nat.reduceEqDiff, Nat.reduceAdd, Nat.reduceLeDiff, Nat.reducePow, Nat.reduceMul, Yay, Yaz, Yag, Yah, Yai, Yaj, Yak, Yal, Yam, Yan, Yao, Yap, Yaq, Yar, Yas, Yat, Yau, Yav, Yaw, Yax, Ybc, Ybd, Yba, Ybb, Yzz, tyW]
      exact ⟨_, St.wk.cp (St.wk.refl _), hQ⟩
  | cons y l =>
    refine SCall_introC Try.func33 rfl Try.ntmps33 (rs := []) rfl (by simp) (N := 2) rfl ?_
    simp only [Xaa, Xab, Xac, Xad, Xae, Xaf, Xag, Xah, Xai, Xaj, Xak, Xal, Xam, Xan, Xao, Xap, Xaq, Xar, Xas, Xat, Xau, Xav, Xaw, Xax, Xay, Xaz, Xba, Xbb, awl, Xbc, Xbd, Xbe, Xbf, Xbg, Xbh, Xbi, Xbj, Xbk, Xbl, Xbm, Xbn, Xbo, Xbp, Xbq, ne_eq, srcRows, awo, aggEq, eqF, litEq, andO, qwl, qwo, qOp, Xbr, Xbs, Xbt, lop, Yaa, Yab, Xbu, Xbv, Xbw, oneK, Xbx, Xby, Xbz, Xca, Xcb, Xcc, Xcd, Xce, Xcf, Xcg, Xch, stepOp, Xci, Xcj, Xck, pairO, pureOp, heapOp, entry, slotsOf, ev, evL, evP, evO, lk, up, St.put, St.drop, constAV, cellAV, cellsAV, plain, binV, intBin, strBin, guardBit, boolOf, fnOf, intOfAV, bound, resOf, retV, moved, rowOf, valAt, Kd.agg, AV.cells, splice, places, fillAV, rowsFill, Hp.none, Yac, Yad, Yae, Yaf, ↓reduceIte, reduceCtorEq, Nat.reduceLT, Nat.reduceEqDiff, Nat.reduceAdd, Nat.reduceLeDiff, Nat.reducePow, Nat.reduceMul, Yay, Yaz, Yag, Yah, Yai, Yaj, Yak, Yal, Yam, Yan, Yao, Yap, Yaq, Yar, Yas, Yat, Yau, Yav, Yaw, Yax, Ybc, Ybd, Yba, Ybb, Yzz, tyW, encK, brH, grA, grT, grN, List.map_cons]
    refine CallK_of call34 (io _ 1 (fun _ => ⟨rfl, by show 1 < 2; decide⟩)) ?_
    rintro r' h' ⟨rfl, rfl⟩
    simp only [Xaa, Xab, Xac, Xad, Xae, Xaf, Xag, Xah, Xai, Xaj, Xak, Xal, Xam, Xan, Xao, Xap, Xaq, Xar, Xas, Xat, Xau, Xav, Xaw, Xax, Xay, Xaz, Xba, Xbb, awl, Xbc, Xbd, Xbe, Xbf, Xbg, Xbh, Xbi, Xbj, Xbk, Xbl, Xbm, Xbn, Xbo, Xbp, Xbq, ne_eq, srcRows, awo, aggEq, eqF, litEq, andO, qwl, qwo, qOp, Xbr, Xbs, Xbt, lop, Yaa, Yab, Xbu, Xbv, Xbw, oneK, Xbx, Xby, Xbz, Xca, Xcb, Xcc, Xcd, Xce, Xcf, Xcg, Xch, stepOp, Xci, Xcj, Xck, pairO, pureOp, heapOp, entry, slotsOf, ev, evL, evP, evO, lk, up, St.put, St.drop, constAV, cellAV, cellsAV, plain, binV, intBin, strBin, guardBit, boolOf, fnOf, intOfAV, bound, resOf, retV, moved, rowOf, valAt, Kd.agg, AV.cells, splice, places, fillAV, rowsFill, Hp.none, Yac, Yad, Yae, Yaf, ↓reduceIte, reduceCtorEq, Nat.reduceLT, Nat.reduceEqDiff, Nat.reduceAdd, Nat.reduceLeDiff, Nat.reducePow, Nat.reduceMul, Yay, Yaz, Yag, Yah, Yai, Yaj, Yak, Yal, Yam, Yan, Yao, Yap, Yaq, Yar, Yas, Yat, Yau, Yav, Yaw, Yax, Ybc, Ybd, Yba, Ybb, Yzz, tyW]
    cases hb : isN s (.mk op name set lz ⟨gop, gn, gname, gkids⟩ (y :: l) level place)
    · obtain ⟨k, hk⟩ : ∃ k, (y :: l)[(y :: l).length - 1]? = some k := ⟨_, List.getElem?_eq_getElem (by simp)⟩
      have g1 : (encE y :: l.map encE)[l.length]? = some (encE k) := by
        have : ((y :: l).map encE)[l.length]? = some (encE k) := by rw [List.getElem?_map, show (y :: l)[l.length]? = some k from hk]; rfl
        exact this
      have hkl := encE_length k
      have z1 : decide ((((l.map encE).length + 1 : Nat) : Int) > 0) = true := decide_eq_true (by omega)
      have z2 : ((((l.map encE).length + 1 : Nat) : Int) - 1) = ((l.length : Nat) : Int) := by simp
      have z3 : (0 : Int) ≤ ((l.length : Nat) : Int) := Int.natCast_nonneg _
      have z4 : ((l.length : Nat) : Int) < (((l.map encE).length + 1 : Nat) : Int) := by simp; omega
      have hl1 : l.length ≤ 1000000000 := by simp at hlen; omega
      have hr : lastE s lvl (.mk op name set lz ⟨gop, gn, gname, gkids⟩ (y :: l) level place) = .mk op name set lz ⟨gop, gn, gname, gkids⟩ (if op == 5 then (if isN s k then (y :: l).set l.length (lvE lvl k) else (y :: l)) else (y :: l)) level place := by
        have hk' : (y :: l)[l.length]? = some k := hk
        simp only [lastE, hb, lastK, List.length_cons, Nat.add_sub_cancel, hk', Bool.false_eq_true, if_false]
      rw [hr] at hQ
      simp only [Xaa, Xab, Xac, Xad, Xae, Xaf, Xag, Xah, Xai, Xaj, Xak, Xal, Xam, Xan, Xao, Xap, Xaq, Xar, Xas, Xat, Xau, Xav, Xaw, Xax, Xay, Xaz, Xba, Xbb, awl, Xbc, Xbd, Xbe, Xbf, Xbg, Xbh, Xbi, Xbj, Xbk, Xbl, Xbm, Xbn, Xbo, Xbp, Xbq, ne_eq, srcRows, awo, aggEq, eqF, litEq, andO, qwl, qwo, qOp, Xbr, Xbs, Xbt, lop, Yaa, Yab, Xbu, Xbv, Xbw, oneK, Xbx, Xby, Xbz, Xca, Xcb, Xcc, Xcd, Xce, Xcf, Xcg, Xch, stepOp, Xci, Xcj, Xck, pairO, pureOp, heapOp, entry, slotsOf, ev, evL, evP, evO, lk, up, St.put, St.drop, constAV, cellAV, cellsAV, plain, binV, intBin, strBin, guardBit, boolOf, fnOf, intOfAV, bound, resOf, retV, moved, rowOf, valAt, Kd.agg, AV.cells, splice, places, fillAV, rowsFill, Hp.none, Yac, Yad, Yae, Yaf, ↓reduceIte, reduceCtorEq, Nat.reduceLT, Nat.reduceEqDiff, Nat.reduceAdd, Nat.reduceLeDiff, Nat.reducePow, Nat.reduceMul, Yay, Yaz, Yag, Yah, Yai, Yaj, Yak, Yal, Yam, Yan, Yao, Yap, Yaq, Yar, Yas, Yat, Yau, Yav, Yaw, Yax, Ybc, Ybd, Yba, Ybb, Yzz, tyW]
      cases h5 : (op == 5)
      · simp only [Xaa, Xab, Xac, Xad, Xae, Xaf, Xag, Xah, Xai, Xaj, Xak, Xal, Xam, Xan, Xao, Xap, Xaq, Xar, Xas, Xat, Xau, Xav, Xaw, Xax, Xay, Xaz, Xba, Xbb, awl, Xbc, Xbd, Xbe, Xbf, Xbg, Xbh, Xbi, Xbj, Xbk, Xbl, Xbm, Xbn, Xbo, Xbp, Xbq, ne_eq, srcRows, awo, aggEq, eqF, litEq, andO, qwl, qwo, qOp, Xbr, Xbs, Xbt, lop, Yaa, Yab, Xbu, Xbv, Xbw, oneK, Xbx, Xby, Xbz, Xca, Xcb, Xcc, Xcd, Xce, Xcf, Xcg, Xch, stepOp, Xci, Xcj, Xck, pairO, pureOp, heapOp, entry, slotsOf, ev, evL, evP, evO, lk, up, St.put, St.drop, constAV, cellAV, cellsAV, plain, binV, intBin, strBin, guardBit, boolOf, fnOf, intOfAV, bound, resOf, retV, moved, rowOf, valAt, Kd.agg, AV.cells, splice, places, fillAV, rowsFill, Hp.none, Yac, Yad, Yae, Yaf, ↓reduceIte, reduceCtorEq, Nat.reduceLT, Nat.reduceEqDiff, Nat.reduceAdd, Nat.reduceLeDiff, Nat.reducePow, Nat.reduceMul, Yay, Yaz, Yag, Yah, Yai, Yaj, Yak, Yal, Yam, Yan, Yao, Yap, Yaq, Yar, Yas, Yat, Yau, Yav, Yaw, Yax, Ybc, Ybd, Yba, Ybb, Yzz, tyW]
        exact ⟨_, St.wk.cp (St.wk.refl _), by rw [h5] at hQ; exact hQ⟩
      · simp (disch := omega) only [Xaa, Xab, Xac, Xad, Xae, Xaf, Xag, Xah, Xai, Xaj, Xak, Xal, Xam, Xan, Xao, Xap, Xaq, Xar, Xas, Xat, Xau, Xav, Xaw, Xax, Xay, Xaz, Xba, Xbb, awl, Xbc, Xbd, Xbe, Xbf, Xbg, Xbh, Xbi, Xbj, Xbk, Xbl, Xbm, Xbn, Xbo, Xbp, Xbq, ne_eq, srcRows, awo, aggEq, eqF, litEq, andO, qwl, qwo, qOp, Xbr, Xbs, Xbt, lop, Yaa, Yab, Xbu, Xbv, Xbw, oneK, Xbx, Xby, Xbz, Xca, Xcb, Xcc, Xcd, Xce, Xcf, Xcg, Xch, stepOp, Xci, Xcj, Xck, pairO, pureOp, heapOp, entry, slotsOf, ev, evL, evP, evO, lk, up, St.put, St.drop, constAV, cellAV, cellsAV, plain, binV, intBin, strBin, guardBit, boolOf, fnOf, intOfAV, bound, resOf, retV, moved, rowOf, valAt, Kd.agg, AV.cells, splice, places, fillAV, rowsFill, Hp.none, Yac, Yad, Yae, Yaf, ↓reduceIte, reduceCtorEq, Nat.reduceLT, Nat.reduceEqDiff, Nat.reduceAdd, Nat.reduceLeDiff, Nat.reducePow, Nat.reduceMul, Yay, Yaz, Yag, Yah, Yai, Yaj, Yak, Yal, Yam, Yan, Yao, Yap, Yaq, Yar, Yas, Yat, Yau, Yav, Yaw, Yax, Ybc, Ybd, Yba, Ybb, Yzz, tyW, i64w, z1, z2, z3, z4, Int.toNat_natCast, g1, hkl, encE_take]
        refine CallK_pure call34 (spec34 s k) (by simp [Pure.lit]; exact pureE k) (.lit _) ?_
        simp only [Xaa, Xab, Xac, Xad, Xae, Xaf, Xag, Xah, Xai, Xaj, Xak, Xal, Xam, Xan, Xao, Xap, Xaq, Xar, Xas, Xat, Xau, Xav, Xaw, Xax, Xay, Xaz, Xba, Xbb, awl, Xbc, Xbd, Xbe, Xbf, Xbg, Xbh, Xbi, Xbj, Xbk, Xbl, Xbm, Xbn, Xbo, Xbp, Xbq, ne_eq, srcRows, awo, aggEq, eqF, litEq, andO, qwl, qwo, qOp, Xbr, Xbs, Xbt, lop, Yaa, Yab, Xbu, Xbv, Xbw, oneK, Xbx, Xby, Xbz, Xca, Xcb, Xcc, Xcd, Xce, Xcf, Xcg, Xch, stepOp, Xci, Xcj, Xck, pairO, pureOp, heapOp, entry, slotsOf, ev, evL, evP, evO, lk, up, St.put, St.drop, constAV, cellAV, cellsAV, plain, binV, intBin, strBin, guardBit, boolOf, fnOf, intOfAV, bound, resOf, retV, moved, rowOf, valAt, Kd.agg, AV.cells, splice, places, fillAV, rowsFill, Hp.none, Yac, Yad, Yae, Yaf, ↓reduceIte, reduceCtorEq, Nat.reduceLT, Nat.reduceEqDiff, Nat.reduceAdd, Nat.reduceLeDiff, Nat.reducePow, Nat.reduceMul, Yay, Yaz, Yag, Yah, Yai, Yaj, Yak, Yal, Yam, Yan, Yao, Yap, Yaq, Yar, Yas, Yat, Yau, Yav, Yaw, Yax, Ybc, Ybd, Yba, Ybb, Yzz, tyW]
        rw [h5] at hQ
        cases hbk : isN s k
        · simp only [Xaa, Xab, Xac, Xad, Xae, Xaf, Xag, Xah, Xai, Xaj, Xak, Xal, Xam, Xan, Xao, Xap, Xaq, Xar, Xas, Xat, Xau, Xav, Xaw, Xax, Xay, Xaz, Xba, Xbb, awl, Xbc, Xbd, Xbe, Xbf, Xbg, Xbh, Xbi, Xbj, Xbk, Xbl, Xbm, Xbn, Xbo, Xbp, Xbq, ne_eq, srcRows, awo, aggEq, eqF, litEq, andO, qwl, qwo, qOp, Xbr, Xbs, Xbt, lop, Yaa, Yab, Xbu, Xbv, Xbw, oneK, Xbx, Xby, Xbz, Xca, Xcb, Xcc, Xcd, Xce, Xcf, Xcg, Xch, stepOp, Xci, Xcj, Xck, pairO, pureOp, heapOp, entry, slotsOf, ev, evL, evP, evO, lk, up, St.put, St.drop, constAV, cellAV, cellsAV, plain, binV, intBin, strBin, guardBit, boolOf, fnOf, intOfAV, bound, resOf, retV, moved, rowOf, valAt, Kd.agg, AV.cells, splice, places, fillAV, rowsFill, Hp.none, Yac, Yad, Yae, Yaf, ↓reduceIte, reduceCtorEq, Nat.reduceLT, Nat.reduceEqDiff, Nat.reduceAdd, Nat.reduceLeDiff, Nat.reducePow, Nat.reduceMul, Yay, Yaz, Yag, Yah, Yai, Yaj, Yak, Yal, Yam, Yan, Yao, Yap, Yaq, Yar, Yas, Yat, Yau, Yav, Yaw, Yax, Ybc, Ybd, Yba, Ybb, Yzz, tyW]
          rw [hbk] at hQ
          exact ⟨_, St.wk.cp (St.wk.refl _), hQ⟩
        · rw [hbk] at hQ
          have hsp := splice_lv k lvl
          simp (disch := omega) only [Xaa, Xab, Xac, Xad, Xae, Xaf, Xag, Xah, Xai, Xaj, Xak, Xal, Xam, Xan, Xao, Xap, Xaq, Xar, Xas, Xat, Xau, Xav, Xaw, Xax, Xay, Xaz, Xba, Xbb, awl, Xbc, Xbd, Xbe, Xbf, Xbg, Xbh, Xbi, Xbj, Xbk, Xbl, Xbm, Xbn, Xbo, Xbp, Xbq, ne_eq, srcRows, awo, aggEq, eqF, litEq, andO, qwl, qwo, qOp, Xbr, Xbs, Xbt, lop, Yaa, Yab, Xbu, Xbv, Xbw, oneK, Xbx, Xby, Xbz, Xca, Xcb, Xcc, Xcd, Xce, Xcf, Xcg, Xch, stepOp, Xci, Xcj, Xck, pairO, pureOp, heapOp, entry, slotsOf, ev, evL, evP, evO, lk, up, St.put, St.drop, constAV, cellAV, cellsAV, plain, binV, intBin, strBin, guardBit, boolOf, fnOf, intOfAV, bound, resOf, retV, moved, rowOf, valAt, Kd.agg, AV.cells, splice, places, fillAV, rowsFill, Hp.none, Yac, Yad, Yae, Yaf, ↓reduceIte, reduceCtorEq, Nat.reduceLT, Nat.reduceEqDiff, Nat.reduceAdd, Nat.reduceLeDiff, Nat.reducePow, Nat.reduceMul, Yay, Yaz, Yag, Yah, Yai, Yaj, Yak, Yal, Yam, Yan, Yao, Yap, Yaq, Yar, Yas, Yat, Yau, Yav, Yaw, Yax, Ybc, Ybd, Yba, Ybb, Yzz, tyW, i64w, z1, z2, z3, z4, Int.toNat_natCast, g1, hkl, hsp, Nat.zero_le]
          have hset : (encE y :: l.map encE).set l.length (encE (lvE lvl k)) = ((y :: l).set l.length (lvE lvl k)).map encE := by rw [List.map_set]; rfl
          rw [hset]
          have hQ : Q (.tup []) (brH A V (.mk op name set lz ⟨gop, gn, gname, gkids⟩ ((y :: l).set l.length (lvE lvl k)) level place) ((y :: l).set l.length (lvE lvl k))) := hQ
          have hln : ((y :: l).set l.length (lvE lvl k)).length = l.length + 1 := by simp
          generalize (y :: l).set l.length (lvE lvl k) = kk at hQ hln ⊢
          cases kk with
          | nil => simp at hln
          | cons y' l' =>
            have hl2 : (l.map encE).length = (l'.map encE).length := by simp at hln ⊢; omega
            rw [hl2]
            exact ⟨_, St.wk.cp (St.wk.refl _), hQ⟩
    · have hr : lastE s lvl (.mk op name set lz ⟨gop, gn, gname, gkids⟩ (y :: l) level place) = .mk op name set lz ⟨gop, gn, gname, gkids⟩ (y :: l) lvl place := by simp [lastE, hb]
      rw [hr] at hQ
      simp only [Xaa, Xab, Xac, Xad, Xae, Xaf, Xag, Xah, Xai, Xaj, Xak, Xal, Xam, Xan, Xao, Xap, Xaq, Xar, Xas, Xat, Xau, Xav, Xaw, Xax, Xay, Xaz, Xba, Xbb, awl, Xbc, Xbd, Xbe, Xbf, Xbg, Xbh, Xbi, Xbj, Xbk, Xbl, Xbm, Xbn, Xbo, Xbp, Xbq, ne_eq, srcRows, awo, aggEq, eqF, litEq, andO, qwl, qwo, qOp, Xbr, Xbs, Xbt, lop, Yaa, Yab, Xbu, Xbv, Xbw, oneK, Xbx, Xby, Xbz, Xca, Xcb, Xcc, Xcd, Xce, Xcf, Xcg, Xch, stepOp, Xci, Xcj, Xck, pairO, pureOp, heapOp, entry, slotsOf, ev, evL, evP, evO, lk, up, St.put, St.drop, constAV, cellAV, cellsAV, plain, binV, intBin, strBin, guardBit, boolOf, fnOf, intOfAV, bound, resOf, retV, moved, rowOf, valAt, Kd.agg, AV.cells, splice, places, fillAV, rowsFill, Hp.none, Yac, Yad, Yae, Yaf, ↓reduceIte, reduceCtorEq, Nat.reduceLT, Nat.reduceEqDiff, Nat.reduceAdd, Nat.reduceLeDiff, Nat.reducePow, Nat.reduceMul, Yay, Yaz, Yag, Yah, Yai, Yaj, Yak, Yal, Yam, Yan, Yao, Yap, Yaq, Yar, Yas, Yat, Yau, Yav, Yaw, Yax, Ybc, Ybd, Yba, Ybb, Yzz, tyW]
      exact ⟨_, St.wk.cp (St.wk.refl _), hQ⟩
end Go.Proofs.Ytkbnnipiacajoaa
