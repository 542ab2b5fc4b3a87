/- Contracts: elements copied; what begins with a rule's name; levels; guards in elements; sizes. Conditions: those that each theorem names. -/
import Derived.Test.YtkbnnipiacajoaaLeft3
namespace Go.Proofs.Ytkbnnipiacajoaa
open Go.Ab
set_option linter.unusedSimpArgs false
set_option linter.unusedVariables false
set_option maxRecDepth 20000

theorem wk_call {f : Nat} {e : El} {x : AV} (hx : Ab.Pure x) {H : Hp} (hb : lk H.boxes 2 = some [.fn (.func 51) [] [.ptr 2 0]]) (ht : H.toks = []) (hn : H.nx = 3) (hc : SCall Try.prog f [x, .ptr 0 0] wkH (ownWQ e)) :
    SCall Try.prog f [x, .ptr 2 0] H fun r h' => r = .agg (encK (grA 3 (ckr e)) (cpE e)) ∧ h' = ⟨H.boxes, grT 3 11 (ckr e), grN 3 (ckr e)⟩ := by
  have hp := pure_ckr e
  refine SCall.sub (hs := wkH) (fun _ => 2) (fun i j h1 h2 _ => by have h1 : i < 1 := h1; have h2 : j < 1 := h2; omega) (fun i _ => by rw [hn]; decide) (.cons (.pure hx) (.cons (.ptr (by show 0 < 1; decide) rfl) .nil))
    (allc ⟨by show 0 < 1; decide, _, hb, .cons (.fn .nil (.cons (.ptr (by show 0 < 1; decide) rfl) .nil)) .nil⟩ alln) alln hc ?_
  rintro r h' ⟨rfl, rfl⟩ _
  cases hk : ckr e with
  | nil =>
    refine ⟨.agg (encK (grA 3 []) (cpE e)), ⟨H.boxes, [], 3⟩, 0, Nat.le_refl _, by rw [hn], .agg (rnL_encK _ (.pure (.vec (by simp)))), fun id cs' h => ?_, (by intro id k' h; cases h), rfl, rfl⟩
    by_cases hid : id = 2
    · subst hid
      have h : lk H.boxes 2 = some cs' := h
      rw [hb] at h; cases h
      exact .inl ⟨0, _, by show 0 < 1; decide, rfl, rfl, .cons (.fn .nil (.cons (.ptr (by show 0 < 1; decide) rfl) .nil)) .nil⟩
    · exact .inr ⟨h, fun i c _ q => hid q.symm⟩
  | cons y l =>
    rw [hk] at hp
    refine ⟨.agg (encK (grA 3 (y :: l)) (cpE e)), ⟨H.boxes, grT 3 11 (y :: l), 4⟩, 1, Nat.le_refl _, by rw [hn], .agg (rnL_encK _ (.own (by show 1 < 2; decide) (by rw [hn]; rfl))), fun id cs' h => ?_, fun id k' h => ?_, rfl, rfl⟩
    · by_cases hid : id = 2
      · subst hid
        have h : lk H.boxes 2 = some cs' := h
        rw [hb] at h; cases h
        exact .inl ⟨0, _, by show 0 < 2; decide, rfl, rfl, .cons (.fn .nil (.cons (.ptr (by show 0 < 2; decide) rfl) .nil)) .nil⟩
      · exact .inr ⟨h, fun i c _ q => hid q.symm⟩
    · simp only [grT, lk] at h
      split at h
      · rename_i hid
        cases h
        exact .inl ⟨1, _, by show 1 < 2; decide, by rw [hn]; exact hid, rfl, rfl, rfl, .pure hp⟩
      · cases h

theorem encK_length (ka : AV) (e : El) : (encK ka e).length = 11 := by rcases e with ⟨a, b, c, d, ⟨x, y, z, u⟩, f, g, h⟩; rfl
theorem encK_take (ka : AV) (e : El) : (encK ka e).take 11 = encK ka e := List.take_of_length_le (by rw [encK_length]; exact Nat.le_refl _)
theorem copied_spec (e : El) (he : esz e ≤ 1000000000) : SCall Try.prog 31 [.agg (encE e)] .none (ownR e) := by
  refine SCall_introC Try.func31 rfl Try.ntmps31 (rs := [.cell 2 49]) rfl (by simp) (N := 0) rfl ?_
  simp only [Xaa, Xab, Xac, Xad, Xae, Xaf, Xag, Xah, Xai, Xaj, Xak, Xal, Xam, Xan, Xao, Xap, Xaq, Xar, Xas, Xat, Xau, Xav, Xaw, Xax, Xay, Xaz, Xba, Xbb, awl, Xbc, Xbd, Xbe, Xbf, Xbg, Xbh, Xbi, Xbj, Xbk, Xbl, Xbm, Xbn, Xbo, Xbp, Xbq, ne_eq, srcRows, awo, aggEq, eqF, litEq, andO, qwl, qwo, qOp, Xbr, Xbs, Xbt, lop, Yaa, Yab, Xbu, Xbv, Xbw, oneK, Xbx, Xby, Xbz, Xca, Xcb, Xcc, Xcd, Xce, Xcf, Xcg, Xch, stepOp, Xci, Xcj, Xck, pairO, pureOp, heapOp, entry, slotsOf, ev, evL, evP, evO, lk, up, St.put, St.drop, constAV, cellAV, cellsAV, plain, binV, intBin, strBin, guardBit, boolOf, fnOf, intOfAV, bound, resOf, retV, moved, rowOf, valAt, Kd.agg, AV.cells, splice, places, fillAV, rowsFill, Hp.none, Yac, Yad, Yae, Yaf, ↓reduceIte, reduceCtorEq, Nat.reduceLT, Nat.reduceEqDiff, Nat.reduceAdd, Nat.reduceLeDiff, Nat.reducePow, Nat.reduceMul, Yay, Yaz, Yag, Yah, Yai, Yaj, Yak, Yal, Yam, Yan, Yao, Yap, Yaq, Yar, Yas, Yat, Yau, Yav, Yaw, Yax, Ybc, Ybd, Yba, Ybb, Yzz, tyW, tyFn, encE_length, encE_take]
  refine CallK_of call51 (wk_call (pureE e) rfl rfl rfl (ownW_told (copied1_spec e he))) ?_
  rintro r h' ⟨rfl, rfl⟩
  simp only [Xaa, Xab, Xac, Xad, Xae, Xaf, Xag, Xah, Xai, Xaj, Xak, Xal, Xam, Xan, Xao, Xap, Xaq, Xar, Xas, Xat, Xau, Xav, Xaw, Xax, Xay, Xaz, Xba, Xbb, awl, Xbc, Xbd, Xbe, Xbf, Xbg, Xbh, Xbi, Xbj, Xbk, Xbl, Xbm, Xbn, Xbo, Xbp, Xbq, ne_eq, srcRows, awo, aggEq, eqF, litEq, andO, qwl, qwo, qOp, Xbr, Xbs, Xbt, lop, Yaa, Yab, Xbu, Xbv, Xbw, oneK, Xbx, Xby, Xbz, Xca, Xcb, Xcc, Xcd, Xce, Xcf, Xcg, Xch, stepOp, Xci, Xcj, Xck, pairO, pureOp, heapOp, entry, slotsOf, ev, evL, evP, evO, lk, up, St.put, St.drop, constAV, cellAV, cellsAV, plain, binV, intBin, strBin, guardBit, boolOf, fnOf, intOfAV, bound, resOf, retV, moved, rowOf, valAt, Kd.agg, AV.cells, splice, places, fillAV, rowsFill, Hp.none, Yac, Yad, Yae, Yaf, ↓reduceIte, reduceCtorEq, Nat.reduceLT, Nat.reduceEqDiff, Nat.reduceAdd, Nat.reduceLeDiff, Nat.reducePow, Nat.reduceMul, Yay, Yaz, Yag, Yah, Yai, Yaj, Yak, Yal, Yam, Yan, Yao, Yap, Yaq, Yar, Yas, Yat, Yau, Yav, Yaw, Yax, Ybc, Ybd, Yba, Ybb, Yzz, tyW, encK_length, encK_take]
  refine ⟨_, St.wk.cp (St.wk.refl _), ?_⟩
  simp only [Xaa, Xab, Xac, Xad, Xae, Xaf, Xag, Xah, Xai, Xaj, Xak, Xal, Xam, Xan, Xao, Xap, Xaq, Xar, Xas, Xat, Xau, Xav, Xaw, Xax, Xay, Xaz, Xba, Xbb, awl, Xbc, Xbd, Xbe, Xbf, Xbg, Xbh, Xbi, Xbj, Xbk, Xbl, Xbm, Xbn, Xbo, Xbp, Xbq, ne_eq, srcRows, awo, aggEq, eqF, litEq, andO, qwl, qwo, qOp, Xbr, Xbs, Xbt, lop, Yaa, Yab, Xbu, Xbv, Xbw, oneK, Xbx, Xby, Xbz, Xca, Xcb, Xcc, Xcd, Xce, Xcf, Xcg, Xch, stepOp, Xci, Xcj, Xck, pairO, pureOp, heapOp, entry, slotsOf, ev, evL, evP, evO, lk, up, St.put, St.drop, constAV, cellAV, cellsAV, plain, binV, intBin, strBin, guardBit, boolOf, fnOf, intOfAV, bound, resOf, retV, moved, rowOf, valAt, Kd.agg, AV.cells, splice, places, fillAV, rowsFill, Hp.none, Yac, Yad, Yae, Yaf, ↓reduceIte, reduceCtorEq, Nat.reduceLT, Nat.reduceEqDiff, Nat.reduceAdd, Nat.reduceLeDiff, Nat.reducePow, Nat.reduceMul, Yay, Yaz, Yag, Yah, Yai, Yaj, Yak, Yal, Yam, Yan, Yao, Yap, Yaq, Yar, Yas, Yat, Yau, Yav, Yaw, Yax, Ybc, Ybd, Yba, Ybb, Yzz, tyW, encK_length, encK_take]
  exact ⟨3, rfl, rfl, rfl⟩
end Go.Proofs.Ytkbnnipiacajoaa
