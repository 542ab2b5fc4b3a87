/- Contracts: with calls of which rules a rule begins, told; and which token rules an element calls. Conditions: those that each theorem names. -/
import Derived.Test.YtogdlomemaoajaaMore8
namespace Go.Proofs.Ytogdlomemaoajaa
open Go.Ab
set_option linter.unusedSimpArgs false
set_option linter.unusedVariables false
set_option maxRecDepth 20000

theorem firstP (g : Gr) (kn : List Bool) (hg : grsz g ≤ 100000000) (hk : kn.length = g.rules.length) (hm : g.rules.length ≤ 60) (i : Nat) (r : Rl) (hr : g.rules[i]? = some r) :
    PCall Try.prog 20 [.pp (askV g kn false) 0, .lit (.int .i64 i)] (.vec [[.lit (.int .u64 (firW g.rules kn r))]] false) := by
  refine PCall_of_SCall ((first_spec g kn hg hk hm i r hr).mono ?_)
  rintro r' h' ⟨rfl, rfl⟩
  exact expo_own (k := wT (firW g.rules kn r)) rfl rfl (by simp [wT, Pure.lit])
theorem spec14 (g : Gr) (hg : grsz g ≤ 100000000) (hm : g.rules.length ≤ 60) (i : Nat) (r : Rl) (hr : g.rules[i]? = some r) :
    PCall Try.prog 14 [.agg (encGr g), .lit (.int .i64 i)] (.vec ((plL g.rules.length (firW g.rules (rulesE g.rules) r)).map encI) false) := by
  have hg' : grsz g ≤ 1000000000 := by omega
  have pr : Ab.Pure (.vec ((rulesE g.rules).map bit) false) := .vec (pure_rows pure_bit _)
  have hi := (List.getElem?_eq_some_iff.1 hr).1
  have c1 : decide ((i : Int) < 0) = false := decide_eq_false (by omega)
  have c2 : decide ((i : Int) ≥ (g.rules.length : Int)) = false := decide_eq_false (by omega)
  refine PCall_of_SCall (SCall_introC Try.func14 rfl Try.ntmps14 (rs := [.tmp 4]) rfl (by simp) (N := 0) rfl ?_)
  have e7 : (encGr g)[7]? = some (.vec (g.rules.map encRl) false) := rfl
  simp -implicitDefEqProofs only [Xaa, Xab, Xac, Xad, Xae, Xaf, Xag, Xah, Xai, Xaj, Xak, Xal, Xam, Xan, Xao, Xap, Xaq, Xar, Xas, Xat, Xau, Xav, Xaw, Xax, Xay, Xaz, Xba, Xbb, awl, Xbc, Xbd, Xbe, Xbf, Xbg, Xbh, Xbi, Xbj, Xbk, Xbl, Xbm, Xbn, Xbo, Xbp, Xbq, ne_eq, srcRows, awo, aggEq, eqF, litEq, andO, qwl, qwo, qOp, Xbr, Xbs, Xbt, lop, Yaa, Yab, Xbu, Xbv, Xbw, oneK, Xbx, Xby, Xbz, Xca, Xcb, Xcc, Xcd, Xce, Xcf, Xcg, Xch, stepOp, Xci, Xcj, Xck, pairO, pureOp, heapOp, entry, slotsOf, ev, evL, evP, evO, lk, up, St.put, St.drop, constAV, cellAV, cellsAV, plain, binV, intBin, strBin, guardBit, boolOf, fnOf, intOfAV, bound, resOf, retV, moved, rowOf, valAt, Kd.agg, AV.cells, splice, places, fillAV, rowsFill, Hp.none, Yac, Yad, Yae, Yaf, ↓reduceIte, reduceCtorEq, Nat.reduceLT, Nat.reduceEqDiff, Nat.reduceAdd, Nat.reduceLeDiff, Nat.reducePow, Nat.reduceMul, Yay, Yaz, Yag, Yah, Yai, Yaj, Yak, Yal, Yam, Yan, Yao, Yap, Yaq, Yar, Yas, Yat, Yau, Yav, Yaw, Yax, Ybc, Ybd, Yba, Ybb, Yzz, tyW, encGr_length, encGr_take, c1, c2, e7, List.length_map]
  refine aw_quietN (n := 25) rfl (by decide) mixed ?_
  simp -implicitDefEqProofs only [Xaa, Xab, Xac, Xad, Xae, Xaf, Xag, Xah, Xai, Xaj, Xak, Xal, Xam, Xan, Xao, Xap, Xaq, Xar, Xas, Xat, Xau, Xav, Xaw, Xax, Xay, Xaz, Xba, Xbb, awl, Xbc, Xbd, Xbe, Xbf, Xbg, Xbh, Xbi, Xbj, Xbk, Xbl, Xbm, Xbn, Xbo, Xbp, Xbq, ne_eq, srcRows, awo, aggEq, eqF, litEq, andO, qwl, qwo, qOp, Xbr, Xbs, Xbt, lop, Yaa, Yab, Xbu, Xbv, Xbw, oneK, Xbx, Xby, Xbz, Xca, Xcb, Xcc, Xcd, Xce, Xcf, Xcg, Xch, stepOp, Xci, Xcj, Xck, pairO, pureOp, heapOp, entry, slotsOf, ev, evL, evP, evO, lk, up, St.put, St.drop, constAV, cellAV, cellsAV, plain, binV, intBin, strBin, guardBit, boolOf, fnOf, intOfAV, bound, resOf, retV, moved, rowOf, valAt, Kd.agg, AV.cells, splice, places, fillAV, rowsFill, Hp.none, Yac, Yad, Yae, Yaf, ↓reduceIte, reduceCtorEq, Nat.reduceLT, Nat.reduceEqDiff, Nat.reduceAdd, Nat.reduceLeDiff, Nat.reducePow, Nat.reduceMul, Yay, Yaz, Yag, Yah, Yai, Yaj, Yak, Yal, Yam, Yan, Yao, Yap, Yaq, Yar, Yas, Yat, Yau, Yav, Yaw, Yax, Ybc, Ybd, Yba, Ybb, Yzz, tyW, encGr_length, encGr_take]
  refine CallQ_pure call7 (spec7 g hg') (allc (pureGr g) alln) pr ?_
  simp -implicitDefEqProofs only [Xaa, Xab, Xac, Xad, Xae, Xaf, Xag, Xah, Xai, Xaj, Xak, Xal, Xam, Xan, Xao, Xap, Xaq, Xar, Xas, Xat, Xau, Xav, Xaw, Xax, Xay, Xaz, Xba, Xbb, awl, Xbc, Xbd, Xbe, Xbf, Xbg, Xbh, Xbi, Xbj, Xbk, Xbl, Xbm, Xbn, Xbo, Xbp, Xbq, ne_eq, srcRows, awo, aggEq, eqF, litEq, andO, qwl, qwo, qOp, Xbr, Xbs, Xbt, lop, Yaa, Yab, Xbu, Xbv, Xbw, oneK, Xbx, Xby, Xbz, Xca, Xcb, Xcc, Xcd, Xce, Xcf, Xcg, Xch, stepOp, Xci, Xcj, Xck, pairO, pureOp, heapOp, entry, slotsOf, ev, evL, evP, evO, lk, up, St.put, St.drop, constAV, cellAV, cellsAV, plain, binV, intBin, strBin, guardBit, boolOf, fnOf, intOfAV, bound, resOf, retV, moved, rowOf, valAt, Kd.agg, AV.cells, splice, places, fillAV, rowsFill, Hp.none, Yac, Yad, Yae, Yaf, ↓reduceIte, reduceCtorEq, Nat.reduceLT, Nat.reduceEqDiff, Nat.reduceAdd, Nat.reduceLeDiff, Nat.reducePow, Nat.reduceMul, Yay, Yaz, Yag, Yah, Yai, Yaj, Yak, Yal, Yam, Yan, Yao, Yap, Yaq, Yar, Yas, Yat, Yau, Yav, Yaw, Yax, Ybc, Ybd, Yba, Ybb, Yzz, tyW, encGr]
  refine CallQ_pure call20 (firstP g (rulesE g.rules) hg (rulesE_len _) hm i r hr) (allc (pure_pp g _ false) (allc (.lit _) alln)) (.vec (by simp [Pure.lit])) ?_
  simp -implicitDefEqProofs only [Xaa, Xab, Xac, Xad, Xae, Xaf, Xag, Xah, Xai, Xaj, Xak, Xal, Xam, Xan, Xao, Xap, Xaq, Xar, Xas, Xat, Xau, Xav, Xaw, Xax, Xay, Xaz, Xba, Xbb, awl, Xbc, Xbd, Xbe, Xbf, Xbg, Xbh, Xbi, Xbj, Xbk, Xbl, Xbm, Xbn, Xbo, Xbp, Xbq, ne_eq, srcRows, awo, aggEq, eqF, litEq, andO, qwl, qwo, qOp, Xbr, Xbs, Xbt, lop, Yaa, Yab, Xbu, Xbv, Xbw, oneK, Xbx, Xby, Xbz, Xca, Xcb, Xcc, Xcd, Xce, Xcf, Xcg, Xch, stepOp, Xci, Xcj, Xck, pairO, pureOp, heapOp, entry, slotsOf, ev, evL, evP, evO, lk, up, St.put, St.drop, constAV, cellAV, cellsAV, plain, binV, intBin, strBin, guardBit, boolOf, fnOf, intOfAV, bound, resOf, retV, moved, rowOf, valAt, Kd.agg, AV.cells, splice, places, fillAV, rowsFill, Hp.none, Yac, Yad, Yae, Yaf, ↓reduceIte, reduceCtorEq, Nat.reduceLT, Nat.reduceEqDiff, Nat.reduceAdd, Nat.reduceLeDiff, Nat.reducePow, Nat.reduceMul, Yay, Yaz, Yag, Yah, Yai, Yaj, Yak, Yal, Yam, Yan, Yao, Yap, Yaq, Yar, Yas, Yat, Yau, Yav, Yaw, Yax, Ybc, Ybd, Yba, Ybb, Yzz, tyW, List.length_map]
  refine CallQ_pure call22 (placesF_spec _ g.rules.length hm) (allc (.vec (by simp [Pure.lit])) (allc (.lit _) alln)) (.vec (pure_rows pure_encI _)) ?_
  simp -implicitDefEqProofs only [Xaa, Xab, Xac, Xad, Xae, Xaf, Xag, Xah, Xai, Xaj, Xak, Xal, Xam, Xan, Xao, Xap, Xaq, Xar, Xas, Xat, Xau, Xav, Xaw, Xax, Xay, Xaz, Xba, Xbb, awl, Xbc, Xbd, Xbe, Xbf, Xbg, Xbh, Xbi, Xbj, Xbk, Xbl, Xbm, Xbn, Xbo, Xbp, Xbq, ne_eq, srcRows, awo, aggEq, eqF, litEq, andO, qwl, qwo, qOp, Xbr, Xbs, Xbt, lop, Yaa, Yab, Xbu, Xbv, Xbw, oneK, Xbx, Xby, Xbz, Xca, Xcb, Xcc, Xcd, Xce, Xcf, Xcg, Xch, stepOp, Xci, Xcj, Xck, pairO, pureOp, heapOp, entry, slotsOf, ev, evL, evP, evO, lk, up, St.put, St.drop, constAV, cellAV, cellsAV, plain, binV, intBin, strBin, guardBit, boolOf, fnOf, intOfAV, bound, resOf, retV, moved, rowOf, valAt, Kd.agg, AV.cells, splice, places, fillAV, rowsFill, Hp.none, Yac, Yad, Yae, Yaf, ↓reduceIte, reduceCtorEq, Nat.reduceLT, Nat.reduceEqDiff, Nat.reduceAdd, Nat.reduceLeDiff, Nat.reducePow, Nat.reduceMul, Yay, Yaz, Yag, Yah, Yai, Yaj, Yak, Yal, Yam, Yan, Yao, Yap, Yaq, Yar, Yas, Yat, Yau, Yav, Yaw, Yax, Ybc, Ybd, Yba, Ybb, Yzz, tyW]
  refine ⟨_, St.wk.cp (St.wk.refl _), ?_⟩
  simp -implicitDefEqProofs only [Xaa, Xab, Xac, Xad, Xae, Xaf, Xag, Xah, Xai, Xaj, Xak, Xal, Xam, Xan, Xao, Xap, Xaq, Xar, Xas, Xat, Xau, Xav, Xaw, Xax, Xay, Xaz, Xba, Xbb, awl, Xbc, Xbd, Xbe, Xbf, Xbg, Xbh, Xbi, Xbj, Xbk, Xbl, Xbm, Xbn, Xbo, Xbp, Xbq, ne_eq, srcRows, awo, aggEq, eqF, litEq, andO, qwl, qwo, qOp, Xbr, Xbs, Xbt, lop, Yaa, Yab, Xbu, Xbv, Xbw, oneK, Xbx, Xby, Xbz, Xca, Xcb, Xcc, Xcd, Xce, Xcf, Xcg, Xch, stepOp, Xci, Xcj, Xck, pairO, pureOp, heapOp, entry, slotsOf, ev, evL, evP, evO, lk, up, St.put, St.drop, constAV, cellAV, cellsAV, plain, binV, intBin, strBin, guardBit, boolOf, fnOf, intOfAV, bound, resOf, retV, moved, rowOf, valAt, Kd.agg, AV.cells, splice, places, fillAV, rowsFill, Hp.none, Yac, Yad, Yae, Yaf, ↓reduceIte, reduceCtorEq, Nat.reduceLT, Nat.reduceEqDiff, Nat.reduceAdd, Nat.reduceLeDiff, Nat.reducePow, Nat.reduceMul, Yay, Yaz, Yag, Yah, Yai, Yaj, Yak, Yal, Yam, Yan, Yao, Yap, Yaq, Yar, Yas, Yat, Yau, Yav, Yaw, Yax, Ybc, Ybd, Yba, Ybb, Yzz, tyW]
  exact expo_pure (.vec (pure_rows pure_encI _))

/-! Which token rules an element calls. -/
mutual
def rgE (rs : List Rl) : El → Int → Int
  | .mk op name _ _ _ kids _ _, w => rgL rs kids (if callI rs true name ≥ 0 ∧ op = 0 then setW w (callI rs true name) else w)
def rgL (rs : List Rl) : List El → Int → Int
  | [], w => w
  | k :: l, w => rgL rs l (rgE rs k w)
end
theorem rgL_drop {rs : List Rl} {l : List El} {i : Nat} {k : El} (h : l[i]? = some k) (w : Int) : rgL rs (l.drop i) w = rgL rs (l.drop (i + 1)) (rgE rs k w) := by
  obtain ⟨hl, h1⟩ := List.getElem?_eq_some_iff.1 h
  rw [List.drop_eq_getElem_cons hl, h1]
  conv => lhs; rw [rgL]
def rkB (g : Gr) : List (Nat × List AV) := [(0, encGr g), (1, [.own 3 1]), (2, [.fn (.func 24) [] [.ptr 0 0, .ptr 1 0, .ptr 2 0]])]
def rkH (g : Gr) (w : Int) : Hp := ⟨rkB g, [(3, wT w)], 4⟩
/-- In any heap. -/
theorem rk_at {g : Gr} {e : El} {w w' : Int} (hc : SCall Try.prog 24 [.agg (encE e), .ptr 0 0, .ptr 1 0, .ptr 2 0] (rkH g w) fun r h' => r = .tup [] ∧ h' = rkH g w') {H : Hp} {a b c d : Nat} (hnd : [a, b, c, d].Nodup) (hlt : ∀ x ∈ [a, b, c, d], x < H.nx)
    (h0 : lk H.boxes a = some (encGr g)) (h1 : lk H.boxes b = some [.own d 1]) (h2 : lk H.boxes c = some [.fn (.func 24) [] [.ptr a 0, .ptr b 0, .ptr c 0]]) (h3 : lk H.toks d = some (wT w)) (hb : lk H.toks a = none ∧ lk H.toks b = none ∧ lk H.toks c = none) :
    SCall Try.prog 24 [.agg (encE e), .ptr a 0, .ptr b 0, .ptr c 0] H fun r h' => r = .tup [] ∧ h' = ⟨H.boxes, up H.toks d (wT w'), H.nx⟩ := by
  have hle : ∀ i, i < 4 → i < [a, b, c, d].length := fun i hi => hi
  have p0 : (0 : Nat) < 4 := by decide
  have p1 : (1 : Nat) < 4 := by decide
  have p2 : (2 : Nat) < 4 := by decide
  have p3 : (3 : Nat) < 4 := by decide
  refine SCall.sub (hs := rkH g w) (rho [a, b, c, d]) (fun i j hi hj q => rho_inj hnd i j (hle i hi) (hle j hj) q) (fun i hi => rho_lt hlt i (hle i hi))
    (.cons (.pure (pureE e)) (.cons (.ptr p0 rfl) (.cons (.ptr p1 rfl) (.cons (.ptr p2 rfl) .nil))))
    (allc ⟨p0, _, h0, .pure (pure_encGr g)⟩ (allc ⟨p1, _, h1, .cons (.own p3 rfl) .nil⟩ (allc ⟨p2, _, h2, .cons (.fn .nil (.cons (.ptr p0 rfl) (.cons (.ptr p1 rfl) (.cons (.ptr p2 rfl) .nil)))) .nil⟩ alln))) (allc ⟨p3, _, h3, rfl, rfl, .pure (by simp [wT, Pure.lit])⟩ alln) hc ?_
  rintro r' h' ⟨rfl, rfl⟩ _
  have hab : a ≠ b ∧ a ≠ c ∧ a ≠ d ∧ b ≠ c ∧ b ≠ d ∧ c ≠ d := by simp at hnd; omega
  refine ⟨_, ⟨H.boxes, up H.toks d (wT w'), H.nx⟩, 0, Nat.le_refl _, rfl, .pure (.tup alln), fun i cs' e' => ?_, fun id k' e' => ?_, rfl, rfl⟩
  · have e' : lk H.boxes i = some cs' := e'
    by_cases ha : a = i
    · subst ha; rw [h0] at e'; cases e'
      exact .inl ⟨0, _, p0, by simp only [ren]; rfl, rfl, .pure (pure_encGr g)⟩
    · by_cases hb' : b = i
      · subst hb'; rw [h1] at e'; cases e'
        exact .inl ⟨1, _, p1, by simp only [ren]; rfl, rfl, .cons (.own p3 (by simp only [ren]; rfl)) .nil⟩
      · by_cases hc' : c = i
        · subst hc'; rw [h2] at e'; cases e'
          exact .inl ⟨2, _, p2, by simp only [ren]; rfl, rfl, .cons (.fn .nil (.cons (.ptr p0 (by simp only [ren]; rfl)) (.cons (.ptr p1 (by simp only [ren]; rfl)) (.cons (.ptr p2 (by simp only [ren]; rfl)) .nil)))) .nil⟩
        · refine .inr ⟨e', fun j cj hj => ?_⟩
          have : j = 0 ∨ j = 1 ∨ j = 2 := by
            simp only [rkH, rkB, lk] at hj
            split at hj
            · rename_i q; exact .inl q.symm
            · split at hj
              · rename_i q; exact .inr (.inl q.symm)
              · split at hj
                · rename_i q; exact .inr (.inr q.symm)
                · cases hj
          rcases this with rfl | rfl | rfl
          · exact ha
          · exact hb'
          · exact hc'
  · have e' : lk (up H.toks d (wT w')) id = some k' := e'
    rw [lk_up] at e'
    by_cases hid : d = id
    · subst hid
      simp only [if_true, h3, Option.map_some, Option.some.injEq] at e'
      subst e'
      exact .inl ⟨3, _, p3, by simp only [ren]; rfl, rfl, rfl, rfl, .pure (by simp [wT, Pure.lit])⟩
    · rw [if_neg hid] at e'
      refine .inr ⟨e', fun i hi q => ?_⟩
      match i, hle i hi, q with
      | 0, _, q => have : a = id := q; rw [← this, hb.1] at e'; cases e'
      | 1, _, q => have : b = id := q; rw [← this, hb.2.1] at e'; cases e'
      | 2, _, q => have : c = id := q; rw [← this, hb.2.2] at e'; cases e'
      | 3, _, q => exact hid q
end Go.Proofs.Ytogdlomemaoajaa
