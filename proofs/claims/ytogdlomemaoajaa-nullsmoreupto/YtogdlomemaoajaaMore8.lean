/- Contracts: which rules come back to themselves, of grammars of two and of three rules. Conditions: those that each theorem names. -/
import Derived.Test.YtogdlomemaoajaaMore7
namespace Go.Proofs.Ytogdlomemaoajaa
open Go.Ab
set_option linter.unusedSimpArgs false
set_option linter.unusedVariables false
set_option maxRecDepth 20000

theorem mem_wToks' : ∀ (ws : List Int) (k : Nat) (p : Nat × Tk), p ∈ wToks k ws → ∃ i w, ws[i]? = some w ∧ p = (k + i, wT w)
  | [], k, p, h => by cases h
  | w :: l, k, p, h => by
    simp only [wToks, List.mem_cons] at h
    rcases h with rfl | h
    · exact ⟨0, w, rfl, rfl⟩
    · obtain ⟨i, v, h1, h2⟩ := mem_wToks' l (k + 1) p h
      exact ⟨i + 1, v, by simpa using h1, by rw [h2]; congr 1; omega⟩
theorem rings_q (fuel : Nat) (ws ws' : List Int) (m : Nat) (hf : ringF fuel ws = some ws') (hw : ws.length = m) (hm : m ≤ 60) :
    SCall Try.prog 21 [.own 0 m] (ringH m ws) (fun r h' => r = .vec ((rgR ws').map encI) false ∧ h' = ⟨[], [], m + 1⟩) := by
  refine (rings_spec fuel ws ws' m hf hw hm).told ?_
  rintro r h' ⟨rfl, rfl⟩
  refine ⟨_, _, ?_, rfl, rfl⟩
  have hp : ∀ x ∈ (rgR ws').map encI, ∀ c ∈ x, Ab.Pure c := pure_rows pure_encI _
  show St.cp (m + 1) _ _
  cases hr : (rgR ws').map encI with
  | nil => exact St.wk.cp (St.wk_conv rfl rfl (fun g1 g2 x => allc ⟨_, rfl, cv_full x _ _⟩ alln) (fun g1 g2 x => alln) (fun g1 => alln))
  | cons x l =>
    rw [hr] at hp
    have hno : lk ((0, (⟨wayR m, 0, 1⟩ : Tk)) :: (wToks 1 ws' ++ grT (m + 1) 1 (x :: l))) (m + 1) = some ⟨x :: l, 0, 1⟩ := by
      rw [lk, if_neg (by omega), lk_app]
      have h1 := lk_wToks ws' 1 m
      rw [Nat.add_comm 1 m] at h1
      have hl : ws'.length = m := by
        have key : ∀ (n : Nat) (us : List Int), us.length = m → ringF n us = some ws' → ws'.length = m := by
          intro n
          induction n with
          | zero => intro us _ h; cases h
          | succ n ih =>
            intro us h1 h2
            have hp : (ringP us).1.length = m := by rw [ringP, foldl_rg_len]; exact h1
            simp only [ringF] at h2
            split at h2
            · exact ih _ hp h2
            · simp only [Option.some.injEq] at h2; rw [← h2]; exact hp
        exact key fuel ws hw hf
      rw [h1, List.getElem?_eq_none (by omega)]; simp [grT, lk]
    refine St.cp.trans (St.wk.cp (St.wk_freeze (σ' := ⟨[(0, .vec (x :: l) false)], ⟨[], [], m + 2⟩, 1⟩) (t := m + 1) (k := ⟨x :: l, 0, 1⟩) hno rfl rfl (fun g1 g2 y c => allc ⟨_, rfl, c⟩ alln) (fun g1 g2 y c => alln) (fun g1 => alln))) ?_
    exact St.cp_of (m + 1) [] (by show m + 1 ≤ m + 2; omega) rfl rfl List.nodup_nil (by simp) (allc ⟨_, rfl, .pure (.vec hp)⟩ alln) alln alln
theorem rings_at (fuel : Nat) (ws ws' : List Int) (m : Nat) (hf : ringF fuel ws = some ws') (hw : ws.length = m) (hm : m ≤ 60) {H : Hp} (l : List Nat) (hl : l.length = m + 1) (hnd : l.Nodup) (hlt : ∀ x ∈ l, x < H.nx)
    (h0 : lk H.toks (rho l 0) = some ⟨(List.range m).map fun i => [.own (rho l (i + 1)) 1], 0, 1⟩) (h1 : ∀ i w, ws[i]? = some w → lk H.toks (rho l (i + 1)) = some (wT w)) :
    SCall Try.prog 21 [.own (rho l 0) m] H (fun r h' => r = .vec ((rgR ws').map encI) false ∧ h' = ⟨H.boxes, [], H.nx⟩) := by
  have hle : ∀ i, i < (ringH m ws).nx → i < l.length := fun i hi => by rw [hl]; exact hi
  refine SCall.sub (hs := ringH m ws) (rho l) (fun i j hi hj q => rho_inj hnd i j (hle i hi) (hle j hj) q) (fun i hi => rho_lt hlt i (hle i hi))
    (.cons (.own (by show 0 < m + 1; omega) rfl) .nil) alln (fun p hp => ?_) (rings_q fuel ws ws' m hf hw hm) ?_
  · have hp : p ∈ (0, (⟨wayR m, 0, 1⟩ : Tk)) :: wToks 1 ws := hp
    rcases List.mem_cons.1 hp with rfl | hp
    · refine ⟨by show 0 < m + 1; omega, _, h0, rfl, rfl, ?_⟩
      have key : ∀ L : List Nat, (∀ i ∈ L, i < m) → RnR (rho l) (m + 1) (L.map fun i => [AV.own (i + 1) 1]) (L.map fun i => [AV.own (rho l (i + 1)) 1]) := by
        intro L
        induction L with
        | nil => intro _; exact .nil
        | cons a L ih => intro h; exact .cons (.cons (.own (by have := h a (by simp); omega) rfl) .nil) rfl (ih fun i hi => h i (by simp [hi]))
      exact key (List.range m) (fun i hi => by simpa using hi)
    · obtain ⟨i, w, hi, rfl⟩ := mem_wToks' ws 1 p hp
      have him := (List.getElem?_eq_some_iff.1 hi).1
      refine ⟨by show 1 + i < m + 1; omega, wT w, ?_, rfl, rfl, .pure (by simp [wT, Pure.lit])⟩
      rw [Nat.add_comm 1 i]
      exact h1 i w hi
  · rintro r h' ⟨rfl, rfl⟩ _
    exact ⟨_, ⟨H.boxes, [], H.nx⟩, 0, Nat.le_refl _, rfl, .pure (.vec (pure_rows pure_encI _)), (fun i cs' e' => .inr ⟨e', fun j c hj => (nomatch hj)⟩), (fun t k' e' => (nomatch e')), rfl, rfl⟩

theorem St.wk_slots0' {sl sl' : List (Nat × AV)} {bx bx' : List (Nat × List AV)} {tk tk' : List (Nat × Tk)} {nx n : Nat} (hs : ∀ p ∈ sl', lk sl p.1 = some p.2) (hb : ∀ p ∈ bx', lk bx p.1 = some p.2) (ht : ∀ p ∈ tk', lk tk p.1 = some p.2) : St.wk ⟨sl, ⟨bx, tk, nx⟩, n⟩ ⟨sl', ⟨bx', tk', nx⟩, n⟩ := St.le.wk ⟨hs, hb, ht, rfl, rfl⟩
theorem left2_spec (g : Gr) (r0 r1 : Rl) (hr : g.rules = [r0, r1]) (hg : grsz g ≤ 100000000) (fuel : Nat) (ws' : List Int) (hf : ringF fuel [firW g.rules (rulesE g.rules) r0, firW g.rules (rulesE g.rules) r1] = some ws') :
    PCall Try.prog 13 [.agg (encGr g)] (.vec ((rgR ws').map encI) false) := by
  have hg' : grsz g ≤ 1000000000 := by omega
  have pr : Ab.Pure (.vec ((rulesE g.rules).map bit) false) := .vec (pure_rows pure_bit _)
  have hrm : g.rules.map encRl = [encRl r0, encRl r1] := by rw [hr]; rfl
  have hk := rulesE_len g.rules
  have hm : g.rules.length ≤ 60 := by rw [hr]; show 2 ≤ 60; decide
  have f0 := first_spec g (rulesE g.rules) hg hk hm 0 r0 (by rw [hr]; rfl)
  have f1 := first_spec g (rulesE g.rules) hg hk hm 1 r1 (by rw [hr]; rfl)
  generalize firW g.rules (rulesE g.rules) r0 = w0 at f0 hf
  generalize firW g.rules (rulesE g.rules) r1 = w1 at f1 hf
  refine PCall_of_SCall (SCall_introC Try.func13 rfl Try.ntmps13 (rs := [.tmp 2]) rfl (by simp) (N := 0) rfl ?_)
  simp -implicitDefEqProofs only [Xaa, Xab, Xac, Xad, Xae, Xaf, Xag, Xah, Xai, Xaj, Xak, Xal, Xam, Xan, Xao, Xap, Xaq, Xar, Xas, Xat, Xau, Xav, Xaw, Xax, Xay, Xaz, Xba, Xbb, awl, Xbc, Xbd, Xbe, Xbf, Xbg, Xbh, Xbi, Xbj, Xbk, Xbl, Xbm, Xbn, Xbo, Xbp, Xbq, ne_eq, srcRows, awo, aggEq, eqF, litEq, andO, qwl, qwo, qOp, Xbr, Xbs, Xbt, lop, Yaa, Yab, Xbu, Xbv, Xbw, oneK, Xbx, Xby, Xbz, Xca, Xcb, Xcc, Xcd, Xce, Xcf, Xcg, Xch, stepOp, Xci, Xcj, Xck, pairO, pureOp, heapOp, entry, slotsOf, ev, evL, evP, evO, lk, up, St.put, St.drop, constAV, cellAV, cellsAV, plain, binV, intBin, strBin, guardBit, boolOf, fnOf, intOfAV, bound, resOf, retV, moved, rowOf, valAt, Kd.agg, AV.cells, splice, places, fillAV, rowsFill, Hp.none, Yac, Yad, Yae, Yaf, ↓reduceIte, reduceCtorEq, Nat.reduceLT, Nat.reduceEqDiff, Nat.reduceAdd, Nat.reduceLeDiff, Nat.reducePow, Nat.reduceMul, Yay, Yaz, Yag, Yah, Yai, Yaj, Yak, Yal, Yam, Yan, Yao, Yap, Yaq, Yar, Yas, Yat, Yau, Yav, Yaw, Yax, Ybc, Ybd, Yba, Ybb, Yzz, tyW, encGr_length, encGr_take]
  refine aw_quietN (n := 26) rfl (by decide) mixed ?_
  simp -implicitDefEqProofs only [Xaa, Xab, Xac, Xad, Xae, Xaf, Xag, Xah, Xai, Xaj, Xak, Xal, Xam, Xan, Xao, Xap, Xaq, Xar, Xas, Xat, Xau, Xav, Xaw, Xax, Xay, Xaz, Xba, Xbb, awl, Xbc, Xbd, Xbe, Xbf, Xbg, Xbh, Xbi, Xbj, Xbk, Xbl, Xbm, Xbn, Xbo, Xbp, Xbq, ne_eq, srcRows, awo, aggEq, eqF, litEq, andO, qwl, qwo, qOp, Xbr, Xbs, Xbt, lop, Yaa, Yab, Xbu, Xbv, Xbw, oneK, Xbx, Xby, Xbz, Xca, Xcb, Xcc, Xcd, Xce, Xcf, Xcg, Xch, stepOp, Xci, Xcj, Xck, pairO, pureOp, heapOp, entry, slotsOf, ev, evL, evP, evO, lk, up, St.put, St.drop, constAV, cellAV, cellsAV, plain, binV, intBin, strBin, guardBit, boolOf, fnOf, intOfAV, bound, resOf, retV, moved, rowOf, valAt, Kd.agg, AV.cells, splice, places, fillAV, rowsFill, Hp.none, Yac, Yad, Yae, Yaf, ↓reduceIte, reduceCtorEq, Nat.reduceLT, Nat.reduceEqDiff, Nat.reduceAdd, Nat.reduceLeDiff, Nat.reducePow, Nat.reduceMul, Yay, Yaz, Yag, Yah, Yai, Yaj, Yak, Yal, Yam, Yan, Yao, Yap, Yaq, Yar, Yas, Yat, Yau, Yav, Yaw, Yax, Ybc, Ybd, Yba, Ybb, Yzz, tyW, encGr_length, encGr_take]
  refine CallQ_pure call7 (spec7 g hg') (allc (pureGr g) alln) pr ?_
  simp -implicitDefEqProofs only [Xaa, Xab, Xac, Xad, Xae, Xaf, Xag, Xah, Xai, Xaj, Xak, Xal, Xam, Xan, Xao, Xap, Xaq, Xar, Xas, Xat, Xau, Xav, Xaw, Xax, Xay, Xaz, Xba, Xbb, awl, Xbc, Xbd, Xbe, Xbf, Xbg, Xbh, Xbi, Xbj, Xbk, Xbl, Xbm, Xbn, Xbo, Xbp, Xbq, ne_eq, srcRows, awo, aggEq, eqF, litEq, andO, qwl, qwo, qOp, Xbr, Xbs, Xbt, lop, Yaa, Yab, Xbu, Xbv, Xbw, oneK, Xbx, Xby, Xbz, Xca, Xcb, Xcc, Xcd, Xce, Xcf, Xcg, Xch, stepOp, Xci, Xcj, Xck, pairO, pureOp, heapOp, entry, slotsOf, ev, evL, evP, evO, lk, up, St.put, St.drop, constAV, cellAV, cellsAV, plain, binV, intBin, strBin, guardBit, boolOf, fnOf, intOfAV, bound, resOf, retV, moved, rowOf, valAt, Kd.agg, AV.cells, splice, places, fillAV, rowsFill, Hp.none, Yac, Yad, Yae, Yaf, ↓reduceIte, reduceCtorEq, Nat.reduceLT, Nat.reduceEqDiff, Nat.reduceAdd, Nat.reduceLeDiff, Nat.reducePow, Nat.reduceMul, Yay, Yaz, Yag, Yah, Yai, Yaj, Yak, Yal, Yam, Yan, Yao, Yap, Yaq, Yar, Yas, Yat, Yau, Yav, Yaw, Yax, Ybc, Ybd, Yba, Ybb, Yzz, tyW, encGr, hrm]
  let asq : AV := .pp (askV g (rulesE g.rules) false) 0
  refine aw_forE 2 1 (fun i (_ : Unit) => match i with
    | 0 => ⟨[(3, .pp (askV g (rulesE g.rules) false) 0), (4, .vec [] true), (13, .lit (.int .i64 2)), (14, .lit (.int .i64 0))], ⟨[], [], 1⟩, 26⟩
    | 1 => ⟨[(3, .pp (askV g (rulesE g.rules) false) 0), (4, .own 2 1), (13, .lit (.int .i64 2)), (14, .lit (.int .i64 1))], ⟨[], [(1, wT w0), (2, ⟨[[.own 1 1]], 0, 1⟩)], 3⟩, 26⟩
    | _ => ⟨[(3, .pp (askV g (rulesE g.rules) false) 0), (4, .own 2 2), (13, .lit (.int .i64 2)), (14, .lit (.int .i64 2))], ⟨[], [(1, wT w0), (2, ⟨[[.own 1 1], [.own 3 1]], 0, 1⟩), (3, wT w1)], 4⟩, 26⟩) (fun _ _ => True) (Nat.le_refl 1) () ?_ trivial ?_ ?_
  · exact St.wk.cp (St.wk_slots0' (by simp [lk, askV, hrm]) (by simp [lk]) (by simp [lk]))
  · rintro i _ hi -
    have z0 : decide ((0 : Int) < 2) = true := by decide
    have z1 : decide ((1 : Int) < 2) = true := by decide
    have hnil : ∀ q ∈ ([] : List (List AV)), q.length = 1 := alln
    have hone : ∀ t : Nat, ∀ q ∈ [[AV.own t 1]], q.length = 1 := fun t => allc rfl alln
    have hfit1 : fits 1 24 := ⟨by decide, by decide⟩
    have hfit2 : fits 2 24 := ⟨by decide, by decide⟩
    match i, hi with
    | 0, _ =>
      simp -implicitDefEqProofs only [Xaa, Xab, Xac, Xad, Xae, Xaf, Xag, Xah, Xai, Xaj, Xak, Xal, Xam, Xan, Xao, Xap, Xaq, Xar, Xas, Xat, Xau, Xav, Xaw, Xax, Xay, Xaz, Xba, Xbb, awl, Xbc, Xbd, Xbe, Xbf, Xbg, Xbh, Xbi, Xbj, Xbk, Xbl, Xbm, Xbn, Xbo, Xbp, Xbq, ne_eq, srcRows, awo, aggEq, eqF, litEq, andO, qwl, qwo, qOp, Xbr, Xbs, Xbt, lop, Yaa, Yab, Xbu, Xbv, Xbw, oneK, Xbx, Xby, Xbz, Xca, Xcb, Xcc, Xcd, Xce, Xcf, Xcg, Xch, stepOp, Xci, Xcj, Xck, pairO, pureOp, heapOp, entry, slotsOf, ev, evL, evP, evO, lk, up, St.put, St.drop, constAV, cellAV, cellsAV, plain, binV, intBin, strBin, guardBit, boolOf, fnOf, intOfAV, bound, resOf, retV, moved, rowOf, valAt, Kd.agg, AV.cells, splice, places, fillAV, rowsFill, Hp.none, Yac, Yad, Yae, Yaf, ↓reduceIte, reduceCtorEq, Nat.reduceLT, Nat.reduceEqDiff, Nat.reduceAdd, Nat.reduceLeDiff, Nat.reducePow, Nat.reduceMul, Yay, Yaz, Yag, Yah, Yai, Yaj, Yak, Yal, Yam, Yan, Yao, Yap, Yaq, Yar, Yas, Yat, Yau, Yav, Yaw, Yax, Ybc, Ybd, Yba, Ybb, Yzz, tyW, z0]
      refine CallK_of call20 (SCall.own_sub (k := wT w0) (by simp [wT, Pure.lit]) (allc (pure_pp g _ false) (allc (.lit _) alln)) f0 _) ?_
      rintro r h' ⟨rfl, rfl⟩
      simp -implicitDefEqProofs (disch := omega) only [Xaa, Xab, Xac, Xad, Xae, Xaf, Xag, Xah, Xai, Xaj, Xak, Xal, Xam, Xan, Xao, Xap, Xaq, Xar, Xas, Xat, Xau, Xav, Xaw, Xax, Xay, Xaz, Xba, Xbb, awl, Xbc, Xbd, Xbe, Xbf, Xbg, Xbh, Xbi, Xbj, Xbk, Xbl, Xbm, Xbn, Xbo, Xbp, Xbq, ne_eq, srcRows, awo, aggEq, eqF, litEq, andO, qwl, qwo, qOp, Xbr, Xbs, Xbt, lop, Yaa, Yab, Xbu, Xbv, Xbw, oneK, Xbx, Xby, Xbz, Xca, Xcb, Xcc, Xcd, Xce, Xcf, Xcg, Xch, stepOp, Xci, Xcj, Xck, pairO, pureOp, heapOp, entry, slotsOf, ev, evL, evP, evO, lk, up, St.put, St.drop, constAV, cellAV, cellsAV, plain, binV, intBin, strBin, guardBit, boolOf, fnOf, intOfAV, bound, resOf, retV, moved, rowOf, valAt, Kd.agg, AV.cells, splice, places, fillAV, rowsFill, Hp.none, Yac, Yad, Yae, Yaf, ↓reduceIte, reduceCtorEq, Nat.reduceLT, Nat.reduceEqDiff, Nat.reduceAdd, Nat.reduceLeDiff, Nat.reducePow, Nat.reduceMul, Yay, Yaz, Yag, Yah, Yai, Yaj, Yak, Yal, Yam, Yan, Yao, Yap, Yaq, Yar, Yas, Yat, Yau, Yav, Yaw, Yax, Ybc, Ybd, Yba, Ybb, Yzz, tyW, i64w, Int.reduceAdd, eq_true hnil, eq_true (hone 1), hfit1]
      exact ⟨(), St.wk.cp (St.wk_slots (by simp [lk]))⟩
    | 1, _ =>
      simp -implicitDefEqProofs only [Xaa, Xab, Xac, Xad, Xae, Xaf, Xag, Xah, Xai, Xaj, Xak, Xal, Xam, Xan, Xao, Xap, Xaq, Xar, Xas, Xat, Xau, Xav, Xaw, Xax, Xay, Xaz, Xba, Xbb, awl, Xbc, Xbd, Xbe, Xbf, Xbg, Xbh, Xbi, Xbj, Xbk, Xbl, Xbm, Xbn, Xbo, Xbp, Xbq, ne_eq, srcRows, awo, aggEq, eqF, litEq, andO, qwl, qwo, qOp, Xbr, Xbs, Xbt, lop, Yaa, Yab, Xbu, Xbv, Xbw, oneK, Xbx, Xby, Xbz, Xca, Xcb, Xcc, Xcd, Xce, Xcf, Xcg, Xch, stepOp, Xci, Xcj, Xck, pairO, pureOp, heapOp, entry, slotsOf, ev, evL, evP, evO, lk, up, St.put, St.drop, constAV, cellAV, cellsAV, plain, binV, intBin, strBin, guardBit, boolOf, fnOf, intOfAV, bound, resOf, retV, moved, rowOf, valAt, Kd.agg, AV.cells, splice, places, fillAV, rowsFill, Hp.none, Yac, Yad, Yae, Yaf, ↓reduceIte, reduceCtorEq, Nat.reduceLT, Nat.reduceEqDiff, Nat.reduceAdd, Nat.reduceLeDiff, Nat.reducePow, Nat.reduceMul, Yay, Yaz, Yag, Yah, Yai, Yaj, Yak, Yal, Yam, Yan, Yao, Yap, Yaq, Yar, Yas, Yat, Yau, Yav, Yaw, Yax, Ybc, Ybd, Yba, Ybb, Yzz, tyW, z1]
      refine CallK_of call20 (SCall.own_sub (k := wT w1) (by simp [wT, Pure.lit]) (allc (pure_pp g _ false) (allc (.lit _) alln)) f1 _) ?_
      rintro r h' ⟨rfl, rfl⟩
      simp -implicitDefEqProofs (disch := omega) only [Xaa, Xab, Xac, Xad, Xae, Xaf, Xag, Xah, Xai, Xaj, Xak, Xal, Xam, Xan, Xao, Xap, Xaq, Xar, Xas, Xat, Xau, Xav, Xaw, Xax, Xay, Xaz, Xba, Xbb, awl, Xbc, Xbd, Xbe, Xbf, Xbg, Xbh, Xbi, Xbj, Xbk, Xbl, Xbm, Xbn, Xbo, Xbp, Xbq, ne_eq, srcRows, awo, aggEq, eqF, litEq, andO, qwl, qwo, qOp, Xbr, Xbs, Xbt, lop, Yaa, Yab, Xbu, Xbv, Xbw, oneK, Xbx, Xby, Xbz, Xca, Xcb, Xcc, Xcd, Xce, Xcf, Xcg, Xch, stepOp, Xci, Xcj, Xck, pairO, pureOp, heapOp, entry, slotsOf, ev, evL, evP, evO, lk, up, St.put, St.drop, constAV, cellAV, cellsAV, plain, binV, intBin, strBin, guardBit, boolOf, fnOf, intOfAV, bound, resOf, retV, moved, rowOf, valAt, Kd.agg, AV.cells, splice, places, fillAV, rowsFill, Hp.none, Yac, Yad, Yae, Yaf, ↓reduceIte, reduceCtorEq, Nat.reduceLT, Nat.reduceEqDiff, Nat.reduceAdd, Nat.reduceLeDiff, Nat.reducePow, Nat.reduceMul, Yay, Yaz, Yag, Yah, Yai, Yaj, Yak, Yal, Yam, Yan, Yao, Yap, Yaq, Yar, Yas, Yat, Yau, Yav, Yaw, Yax, Ybc, Ybd, Yba, Ybb, Yzz, tyW, i64w, Int.reduceAdd, eq_true hnil, eq_true (hone 3), hfit2]
      exact ⟨(), St.wk.cp (St.wk_slots (by simp [lk]))⟩
  · intro _ _
    have z2 : decide ((2 : Int) < 2) = false := by decide
    simp -implicitDefEqProofs only [Xaa, Xab, Xac, Xad, Xae, Xaf, Xag, Xah, Xai, Xaj, Xak, Xal, Xam, Xan, Xao, Xap, Xaq, Xar, Xas, Xat, Xau, Xav, Xaw, Xax, Xay, Xaz, Xba, Xbb, awl, Xbc, Xbd, Xbe, Xbf, Xbg, Xbh, Xbi, Xbj, Xbk, Xbl, Xbm, Xbn, Xbo, Xbp, Xbq, ne_eq, srcRows, awo, aggEq, eqF, litEq, andO, qwl, qwo, qOp, Xbr, Xbs, Xbt, lop, Yaa, Yab, Xbu, Xbv, Xbw, oneK, Xbx, Xby, Xbz, Xca, Xcb, Xcc, Xcd, Xce, Xcf, Xcg, Xch, stepOp, Xci, Xcj, Xck, pairO, pureOp, heapOp, entry, slotsOf, ev, evL, evP, evO, lk, up, St.put, St.drop, constAV, cellAV, cellsAV, plain, binV, intBin, strBin, guardBit, boolOf, fnOf, intOfAV, bound, resOf, retV, moved, rowOf, valAt, Kd.agg, AV.cells, splice, places, fillAV, rowsFill, Hp.none, Yac, Yad, Yae, Yaf, ↓reduceIte, reduceCtorEq, Nat.reduceLT, Nat.reduceEqDiff, Nat.reduceAdd, Nat.reduceLeDiff, Nat.reducePow, Nat.reduceMul, Yay, Yaz, Yag, Yah, Yai, Yaj, Yak, Yal, Yam, Yan, Yao, Yap, Yaq, Yar, Yas, Yat, Yau, Yav, Yaw, Yax, Ybc, Ybd, Yba, Ybb, Yzz, tyW, z2]
    refine CallK_of call21 (rings_at fuel [w0, w1] ws' 2 hf rfl (by decide) [2, 1, 3] rfl (by decide) (by show ∀ x ∈ [2, 1, 3], x < 4; decide) rfl (fun i w h => ?_)) ?_
    · match i, h with
      | 0, h => cases h; rfl
      | 1, h => cases h; rfl
      | i + 2, h => simp at h
    rintro r h' ⟨rfl, rfl⟩
    simp -implicitDefEqProofs only [Xaa, Xab, Xac, Xad, Xae, Xaf, Xag, Xah, Xai, Xaj, Xak, Xal, Xam, Xan, Xao, Xap, Xaq, Xar, Xas, Xat, Xau, Xav, Xaw, Xax, Xay, Xaz, Xba, Xbb, awl, Xbc, Xbd, Xbe, Xbf, Xbg, Xbh, Xbi, Xbj, Xbk, Xbl, Xbm, Xbn, Xbo, Xbp, Xbq, ne_eq, srcRows, awo, aggEq, eqF, litEq, andO, qwl, qwo, qOp, Xbr, Xbs, Xbt, lop, Yaa, Yab, Xbu, Xbv, Xbw, oneK, Xbx, Xby, Xbz, Xca, Xcb, Xcc, Xcd, Xce, Xcf, Xcg, Xch, stepOp, Xci, Xcj, Xck, pairO, pureOp, heapOp, entry, slotsOf, ev, evL, evP, evO, lk, up, St.put, St.drop, constAV, cellAV, cellsAV, plain, binV, intBin, strBin, guardBit, boolOf, fnOf, intOfAV, bound, resOf, retV, moved, rowOf, valAt, Kd.agg, AV.cells, splice, places, fillAV, rowsFill, Hp.none, Yac, Yad, Yae, Yaf, ↓reduceIte, reduceCtorEq, Nat.reduceLT, Nat.reduceEqDiff, Nat.reduceAdd, Nat.reduceLeDiff, Nat.reducePow, Nat.reduceMul, Yay, Yaz, Yag, Yah, Yai, Yaj, Yak, Yal, Yam, Yan, Yao, Yap, Yaq, Yar, Yas, Yat, Yau, Yav, Yaw, Yax, Ybc, Ybd, Yba, Ybb, Yzz, tyW]
    refine ⟨_, St.wk.cp (St.wk.refl _), ?_⟩
    simp -implicitDefEqProofs only [Xaa, Xab, Xac, Xad, Xae, Xaf, Xag, Xah, Xai, Xaj, Xak, Xal, Xam, Xan, Xao, Xap, Xaq, Xar, Xas, Xat, Xau, Xav, Xaw, Xax, Xay, Xaz, Xba, Xbb, awl, Xbc, Xbd, Xbe, Xbf, Xbg, Xbh, Xbi, Xbj, Xbk, Xbl, Xbm, Xbn, Xbo, Xbp, Xbq, ne_eq, srcRows, awo, aggEq, eqF, litEq, andO, qwl, qwo, qOp, Xbr, Xbs, Xbt, lop, Yaa, Yab, Xbu, Xbv, Xbw, oneK, Xbx, Xby, Xbz, Xca, Xcb, Xcc, Xcd, Xce, Xcf, Xcg, Xch, stepOp, Xci, Xcj, Xck, pairO, pureOp, heapOp, entry, slotsOf, ev, evL, evP, evO, lk, up, St.put, St.drop, constAV, cellAV, cellsAV, plain, binV, intBin, strBin, guardBit, boolOf, fnOf, intOfAV, bound, resOf, retV, moved, rowOf, valAt, Kd.agg, AV.cells, splice, places, fillAV, rowsFill, Hp.none, Yac, Yad, Yae, Yaf, ↓reduceIte, reduceCtorEq, Nat.reduceLT, Nat.reduceEqDiff, Nat.reduceAdd, Nat.reduceLeDiff, Nat.reducePow, Nat.reduceMul, Yay, Yaz, Yag, Yah, Yai, Yaj, Yak, Yal, Yam, Yan, Yao, Yap, Yaq, Yar, Yas, Yat, Yau, Yav, Yaw, Yax, Ybc, Ybd, Yba, Ybb, Yzz, tyW]
    exact expo_pure (.vec (pure_rows pure_encI _))
end Go.Proofs.Ytogdlomemaoajaa
