/- Contracts: which rules may be empty: the document's answer. Conditions: those that each theorem names. -/
import Derived.Test.YtkbnnipiacajoaaNul5
namespace Go.Proofs.Ytkbnnipiacajoaa
open Go.Ab
set_option linter.unusedSimpArgs false
set_option linter.unusedVariables false
set_option maxRecDepth 20000

def rrH (g : Gr) (kn : List Bool) : Hp := ⟨[(0, encGr g)], [(1, knT kn)], 2⟩
theorem rrH_own (g : Gr) (kn : List Bool) : Own (rrH g kn) := ⟨allc ⟨by show 0 < 2; decide, .pure (pure_encGr g)⟩ alln, allc ⟨by show 1 < 2; decide, knT_rn kn⟩ alln⟩

theorem rRules_spec (g : Gr) (hg : grsz g ≤ 1000000000) : SCall Try.prog 50 [.agg (encGr g)] .none fun r h' => r = .own 0 g.rules.length ∧ h' = knH (rulesE g.rules) := by
  have pg := pureGr g
  have hlen : g.rules.length ≤ 1000000000 := by
    have := sum_len rsz rsz_pos g.rules
    simp only [grsz] at hg; omega
  refine SCall_introC Try.func50 rfl Try.ntmps50 (rs := [.tmp 2]) rfl (by simp) (N := 0) rfl ?_
  have hnn : (0 : Int) ≤ (g.rules.length : Int) := Int.natCast_nonneg _
  have c1 : (g.rules.length : Int) ≤ 9223372036854775807 := by omega
  have c2 : ((1 : Nat) : Int) * (g.rules.length : Int) ≤ 281474976710656 := by omega
  have hrep : List.replicate g.rules.length [AV.lit (.bool false)] = (List.replicate g.rules.length false).map bit := by simp [bit]
  simp only [Xaa, Xab, Xac, Xad, Xae, Xaf, Xag, Xah, Xai, Xaj, Xak, Xal, Xam, Xan, Xao, Xap, Xaq, Xar, Xas, Xat, Xau, Xav, Xaw, Xax, Xay, Xaz, Xba, Xbb, awl, Xbc, Xbd, Xbe, Xbf, Xbg, Xbh, Xbi, Xbj, Xbk, Xbl, Xbm, Xbn, Xbo, Xbp, Xbq, ne_eq, srcRows, awo, aggEq, eqF, litEq, andO, qwl, qwo, qOp, Xbr, Xbs, Xbt, lop, Yaa, Yab, Xbu, Xbv, Xbw, oneK, Xbx, Xby, Xbz, Xca, Xcb, Xcc, Xcd, Xce, Xcf, Xcg, Xch, stepOp, Xci, Xcj, Xck, pairO, pureOp, heapOp, entry, slotsOf, ev, evL, evP, evO, lk, up, St.put, St.drop, constAV, cellAV, cellsAV, plain, binV, intBin, strBin, guardBit, boolOf, fnOf, intOfAV, bound, resOf, retV, moved, rowOf, valAt, Kd.agg, AV.cells, splice, places, fillAV, rowsFill, Hp.none, Yac, Yad, Yae, Yaf, ↓reduceIte, reduceCtorEq, Nat.reduceLT, Nat.reduceEqDiff, Nat.reduceAdd, Nat.reduceLeDiff, Nat.reducePow, Nat.reduceMul, Yay, Yaz, Yag, Yah, Yai, Yaj, Yak, Yal, Yam, Yan, Yao, Yap, Yaq, Yar, Yas, Yat, Yau, Yav, Yaw, Yax, Ybc, Ybd, Yba, Ybb, Yzz, tyW, encGr, List.length_map, hnn, Int.le_refl, c1, c2, Int.toNat_natCast, hrep]
  -- pass by pass
  refine aw_loopC 2 (fun m σ => ∃ a kn, kn = itr (emp g.rules) g.rules a (List.replicate g.rules.length false) ∧ kn.length = g.rules.length ∧
      ((m = cf kn + 1 ∧ a + cf kn ≤ g.rules.length ∧ σ = ⟨[(1, .ptr 0 0), (3, .own 1 g.rules.length), (4, .lit (.bool true))], rrH g kn, 55⟩) ∨ (m = 0 ∧ a ≤ g.rules.length ∧ (pas (emp g.rules) g.rules g.rules.length kn).1 = kn ∧ σ = ⟨[(1, .ptr 0 0), (3, .own 1 g.rules.length), (4, .lit (.bool false))], rrH g kn, 55⟩)))
    ?_ (σ' := ⟨[(1, .ptr 0 0), (3, .own 1 g.rules.length), (4, .lit (.bool true))], rrH g (List.replicate g.rules.length false), 55⟩) (St.wk_slots (by simp [lk])) (g.rules.length + 1) ⟨0, _, rfl, by simp [itr], .inl ⟨by simp [cf, itr, List.countP_replicate], by simp [cf, itr, List.countP_replicate], rfl⟩⟩ ?_
  · rintro n σ ⟨a, kn, _, _, ⟨_, _, rfl⟩ | ⟨_, _, _, rfl⟩⟩ <;> rfl
  rintro m σ ⟨a, kn, hkn, hl, ⟨hm, ha, rfl⟩ | ⟨hm, ha, hfx, rfl⟩⟩
  · simp only [Xaa, Xab, Xac, Xad, Xae, Xaf, Xag, Xah, Xai, Xaj, Xak, Xal, Xam, Xan, Xao, Xap, Xaq, Xar, Xas, Xat, Xau, Xav, Xaw, Xax, Xay, Xaz, Xba, Xbb, awl, Xbc, Xbd, Xbe, Xbf, Xbg, Xbh, Xbi, Xbj, Xbk, Xbl, Xbm, Xbn, Xbo, Xbp, Xbq, ne_eq, srcRows, awo, aggEq, eqF, litEq, andO, qwl, qwo, qOp, Xbr, Xbs, Xbt, lop, Yaa, Yab, Xbu, Xbv, Xbw, oneK, Xbx, Xby, Xbz, Xca, Xcb, Xcc, Xcd, Xce, Xcf, Xcg, Xch, stepOp, Xci, Xcj, Xck, pairO, pureOp, heapOp, entry, slotsOf, ev, evL, evP, evO, lk, up, St.put, St.drop, constAV, cellAV, cellsAV, plain, binV, intBin, strBin, guardBit, boolOf, fnOf, intOfAV, bound, resOf, retV, moved, rowOf, valAt, Kd.agg, AV.cells, splice, places, fillAV, rowsFill, Hp.none, Yac, Yad, Yae, Yaf, ↓reduceIte, reduceCtorEq, Nat.reduceLT, Nat.reduceEqDiff, Nat.reduceAdd, Nat.reduceLeDiff, Nat.reducePow, Nat.reduceMul, Yay, Yaz, Yag, Yah, Yai, Yaj, Yak, Yal, Yam, Yan, Yao, Yap, Yaq, Yar, Yas, Yat, Yau, Yav, Yaw, Yax, Ybc, Ybd, Yba, Ybb, Yzz, tyW]
    refine aw_for g.rules.length 2 (fun i (_ : Unit) => ⟨[(1, .ptr 0 0), (3, .own 1 g.rules.length), (4, .lit (.bool (pas (emp g.rules) g.rules i kn).2)), (5, .lit (.int .i64 i))], rrH g (pas (emp g.rules) g.rules i kn).1, 55⟩)
      (fun _ _ => True) (fun _ _ => rfl) () (St.wk_slots (by simp [lk, pas_zero])) trivial ?_ ?_
    · rintro i _ hi _
      obtain ⟨r, hr⟩ : ∃ r, g.rules[i]? = some r := ⟨_, List.getElem?_eq_getElem hi⟩
      have hm' : r ∈ g.rules := List.mem_of_getElem? hr
      have g1 := map_getD encRl hr
      have hin : (0 : Int) ≤ (i : Int) := Int.natCast_nonneg i
      have hi1 : (i : Int) < (g.rules.length : Int) := by omega
      have ra : r.alts.length ≤ 1000000000 := by
        have h1 := sum_len asz asz_pos r.alts
        have h2 := rsz_mem hm'
        simp only [grsz] at hg; simp only [rsz] at h2; omega
      have hql := pas_len (ask := emp g.rules) (rs := g.rules) i kn
      rw [hl] at hql
      simp only [pas_succ]
      generalize pas (emp g.rules) g.rules i kn = q at hql ⊢
      have hst : stp (emp g.rules) g.rules q i = if !(q.1.getD i false) && rowB (emp g.rules) q.1 r then (q.1.set i true, true) else q := by simp only [stp, hr]
      simp only [Xaa, Xab, Xac, Xad, Xae, Xaf, Xag, Xah, Xai, Xaj, Xak, Xal, Xam, Xan, Xao, Xap, Xaq, Xar, Xas, Xat, Xau, Xav, Xaw, Xax, Xay, Xaz, Xba, Xbb, awl, Xbc, Xbd, Xbe, Xbf, Xbg, Xbh, Xbi, Xbj, Xbk, Xbl, Xbm, Xbn, Xbo, Xbp, Xbq, ne_eq, srcRows, awo, aggEq, eqF, litEq, andO, qwl, qwo, qOp, Xbr, Xbs, Xbt, lop, Yaa, Yab, Xbu, Xbv, Xbw, oneK, Xbx, Xby, Xbz, Xca, Xcb, Xcc, Xcd, Xce, Xcf, Xcg, Xch, stepOp, Xci, Xcj, Xck, pairO, pureOp, heapOp, entry, slotsOf, ev, evL, evP, evO, lk, up, St.put, St.drop, constAV, cellAV, cellsAV, plain, binV, intBin, strBin, guardBit, boolOf, fnOf, intOfAV, bound, resOf, retV, moved, rowOf, valAt, Kd.agg, AV.cells, splice, places, fillAV, rowsFill, Hp.none, Yac, Yad, Yae, Yaf, ↓reduceIte, reduceCtorEq, Nat.reduceLT, Nat.reduceEqDiff, Nat.reduceAdd, Nat.reduceLeDiff, Nat.reducePow, Nat.reduceMul, Yay, Yaz, Yag, Yah, Yai, Yaj, Yak, Yal, Yam, Yan, Yao, Yap, Yaq, Yar, Yas, Yat, Yau, Yav, Yaw, Yax, Ybc, Ybd, Yba, Ybb, Yzz, tyW, rrH, encGr, List.length_map]
      refine .intro (fun _ => ?_) (fun hb => absurd hi1 (of_decide_eq_false hb))
      rw [Xaa, Xam, Xad]
      simp only [Xaa, Xab, Xac, Xad, Xae, Xaf, Xag, Xah, Xai, Xaj, Xak, Xal, Xam, Xan, Xao, Xap, Xaq, Xar, Xas, Xat, Xau, Xav, Xaw, Xax, Xay, Xaz, Xba, Xbb, awl, Xbc, Xbd, Xbe, Xbf, Xbg, Xbh, Xbi, Xbj, Xbk, Xbl, Xbm, Xbn, Xbo, Xbp, Xbq, ne_eq, srcRows, awo, aggEq, eqF, litEq, andO, qwl, qwo, qOp, Xbr, Xbs, Xbt, lop, Yaa, Yab, Xbu, Xbv, Xbw, oneK, Xbx, Xby, Xbz, Xca, Xcb, Xcc, Xcd, Xce, Xcf, Xcg, Xch, stepOp, Xci, Xcj, Xck, pairO, pureOp, heapOp, entry, slotsOf, ev, evL, evP, evO, lk, up, St.put, St.drop, constAV, cellAV, cellsAV, plain, binV, intBin, strBin, guardBit, boolOf, fnOf, intOfAV, bound, resOf, retV, moved, rowOf, valAt, Kd.agg, AV.cells, splice, places, fillAV, rowsFill, Hp.none, Yac, Yad, Yae, Yaf, ↓reduceIte, reduceCtorEq, Nat.reduceLT, Nat.reduceEqDiff, Nat.reduceAdd, Nat.reduceLeDiff, Nat.reducePow, Nat.reduceMul, Yay, Yaz, Yag, Yah, Yai, Yaj, Yak, Yal, Yam, Yan, Yao, Yap, Yaq, Yar, Yas, Yat, Yau, Yav, Yaw, Yax, Ybc, Ybd, Yba, Ybb, Yzz, tyW, List.length_map, hi1, hin, Int.toNat_natCast, g1, encRl_length, encRl_take]
      -- alternative by alternative
      refine aw_loopC 3 (fun m σ => ∃ (k : Nat) (q' : List Bool × Bool), σ = ⟨[(1, .ptr 0 0), (3, .own 1 g.rules.length), (4, .lit (.bool q'.2)), (5, .lit (.int .i64 i)), (6, .ptr 2 0), (7, .lit (.int .i64 k))], ⟨[(0, encGr g), (2, encRl r)], [(1, knT q'.1)], 3⟩, 55⟩ ∧ q'.1.length = g.rules.length ∧ k ≤ r.alts.length ∧
          ((q' = q ∧ q.1.getD i false = false ∧ (∀ (j : Nat) (x : Al), j < k → r.alts[j]? = some x → emp g.rules q.1 (capN r.name) x.e = false) ∧ m = r.alts.length - k + 1) ∨ (q'.1.getD i false = true ∧ stp (emp g.rules) g.rules q i = q' ∧ m = 0)))
        ?_ (σ' := ⟨[(1, .ptr 0 0), (3, .own 1 g.rules.length), (4, .lit (.bool q.2)), (5, .lit (.int .i64 i)), (6, .ptr 2 0), (7, .lit (.int .i64 ((0 : Nat) : Int)))], ⟨[(0, encGr g), (2, encRl r)], [(1, knT q.1)], 3⟩, 55⟩) (St.wk_slots (by simp [lk])) (if q.1.getD i false = true then 0 else r.alts.length + 1) ?_ ?_
      · rintro n σ ⟨k, q', rfl, _⟩; rfl
      · refine ⟨0, q, rfl, hql, Nat.zero_le _, ?_⟩
        cases hold : q.1.getD i false
        · exact .inl ⟨rfl, rfl, fun j x hj => by omega, by simp⟩
        · exact .inr ⟨rfl, by rw [hst, hold]; simp, by simp⟩
      rintro m' σ ⟨k, q', rfl, hql', hk, hcase⟩
      have hx := kn_get? (kn := q'.1) (i := i) (by omega)
      have hkn : (0 : Int) ≤ (k : Int) := Int.natCast_nonneg k
      have ql : g.rules.length = q'.1.length := hql'.symm
      have back : ∀ {sl : List (Nat × AV)} {bx : List (Nat × List AV)} {q' : List Bool × Bool}, lk sl 1 = some (.ptr 0 0) → lk sl 3 = some (.own 1 g.rules.length) → lk sl 4 = some (.lit (.bool q'.2)) → lk sl 5 = some (.lit (.int .i64 ((i + 1 : Nat) : Int))) → lk bx 0 = some (encGr g) →
          St.cp 2 ⟨sl, ⟨bx, [(1, knT q'.1)], 3⟩, 55⟩ ⟨[(1, .ptr 0 0), (3, .own 1 g.rules.length), (4, .lit (.bool q'.2)), (5, .lit (.int .i64 ((i + 1 : Nat) : Int)))], rrH g q'.1, 55⟩ := by
        intro sl bx q' s1 s3 s4 s5 b0
        exact cp_back (rrH_own g q'.1) (by show 2 ≤ 3; decide) rfl (allc s1 (allc s3 (allc s4 (allc s5 alln)))) (allc (.ptr (by show 0 < 2; decide) rfl) (allc (.own (by show 1 < 2; decide) rfl) (allc (.pure (.lit _)) (allc (.pure (.lit _)) alln)))) (allc b0 alln) (allc rfl alln)
      cases hkl : decide ((k : Int) < (r.alts.length : Int))
      · -- past the last
        have hend : stp (emp g.rules) g.rules q i = q' := by
          rcases hcase with ⟨rfl, h1, h2, _⟩ | ⟨_, h2, _⟩
          · have hkl' := of_decide_eq_false hkl
            have : rowB (emp g.rules) q'.1 r = false := by
              unfold rowB
              rw [List.any_eq_false]
              intro x hx'
              obtain ⟨j, hj⟩ := List.getElem?_of_mem hx'
              have hjl := (List.getElem?_eq_some_iff.1 hj).1
              have := h2 j x (by omega) hj
              simp [this]
            rw [hst, this]; simp
          · exact h2
        rw [hend]
        simp (disch := omega) only [Xaa, Xab, Xac, Xad, Xae, Xaf, Xag, Xah, Xai, Xaj, Xak, Xal, Xam, Xan, Xao, Xap, Xaq, Xar, Xas, Xat, Xau, Xav, Xaw, Xax, Xay, Xaz, Xba, Xbb, awl, Xbc, Xbd, Xbe, Xbf, Xbg, Xbh, Xbi, Xbj, Xbk, Xbl, Xbm, Xbn, Xbo, Xbp, Xbq, ne_eq, srcRows, awo, aggEq, eqF, litEq, andO, qwl, qwo, qOp, Xbr, Xbs, Xbt, lop, Yaa, Yab, Xbu, Xbv, Xbw, oneK, Xbx, Xby, Xbz, Xca, Xcb, Xcc, Xcd, Xce, Xcf, Xcg, Xch, stepOp, Xci, Xcj, Xck, pairO, pureOp, heapOp, entry, slotsOf, ev, evL, evP, evO, lk, up, St.put, St.drop, constAV, cellAV, cellsAV, plain, binV, intBin, strBin, guardBit, boolOf, fnOf, intOfAV, bound, resOf, retV, moved, rowOf, valAt, Kd.agg, AV.cells, splice, places, fillAV, rowsFill, Hp.none, Yac, Yad, Yae, Yaf, ↓reduceIte, reduceCtorEq, Nat.reduceLT, Nat.reduceEqDiff, Nat.reduceAdd, Nat.reduceLeDiff, Nat.reducePow, Nat.reduceMul, Yay, Yaz, Yag, Yah, Yai, Yaj, Yak, Yal, Yam, Yan, Yao, Yap, Yaq, Yar, Yas, Yat, Yau, Yav, Yaw, Yax, Ybc, Ybd, Yba, Ybb, Yzz, tyW, encRl, List.length_map, hkl, i64w]
        exact ⟨(), back rfl rfl rfl rfl rfl⟩
      · have hkl' := of_decide_eq_true hkl
        rcases hcase with ⟨rfl, h1, h2, hm2⟩ | ⟨h1, h2, hm2⟩
        · obtain ⟨al, hal⟩ : ∃ al, r.alts[k]? = some al := ⟨_, List.getElem?_eq_getElem (by omega)⟩
          have ham : al ∈ r.alts := List.mem_of_getElem? hal
          have g2 := map_getD encA hal
          have hae : esz al.e ≤ 1000000000 := by
            have h1 := asz_mem ham; have h2 := rsz_mem hm'; simp only [grsz] at hg; simp only [rsz] at h2; simp only [asz] at h1; omega
          simp only [Xaa, Xab, Xac, Xad, Xae, Xaf, Xag, Xah, Xai, Xaj, Xak, Xal, Xam, Xan, Xao, Xap, Xaq, Xar, Xas, Xat, Xau, Xav, Xaw, Xax, Xay, Xaz, Xba, Xbb, awl, Xbc, Xbd, Xbe, Xbf, Xbg, Xbh, Xbi, Xbj, Xbk, Xbl, Xbm, Xbn, Xbo, Xbp, Xbq, ne_eq, srcRows, awo, aggEq, eqF, litEq, andO, qwl, qwo, qOp, Xbr, Xbs, Xbt, lop, Yaa, Yab, Xbu, Xbv, Xbw, oneK, Xbx, Xby, Xbz, Xca, Xcb, Xcc, Xcd, Xce, Xcf, Xcg, Xch, stepOp, Xci, Xcj, Xck, pairO, pureOp, heapOp, entry, slotsOf, ev, evL, evP, evO, lk, up, St.put, St.drop, constAV, cellAV, cellsAV, plain, binV, intBin, strBin, guardBit, boolOf, fnOf, intOfAV, bound, resOf, retV, moved, rowOf, valAt, Kd.agg, AV.cells, splice, places, fillAV, rowsFill, Hp.none, Yac, Yad, Yae, Yaf, ↓reduceIte, reduceCtorEq, Nat.reduceLT, Nat.reduceEqDiff, Nat.reduceAdd, Nat.reduceLeDiff, Nat.reducePow, Nat.reduceMul, Yay, Yaz, Yag, Yah, Yai, Yaj, Yak, Yal, Yam, Yan, Yao, Yap, Yaq, Yar, Yas, Yat, Yau, Yav, Yaw, Yax, Ybc, Ybd, Yba, Ybb, Yzz, tyW, encRl, List.length_map, hkl, hin, hi1, knT, hql', Int.toNat_natCast, hx, bit, h1]
          refine aw_quietN (n := 55) rfl (by decide) mixed ?_
          simp only [Xaa, Xab, Xac, Xad, Xae, Xaf, Xag, Xah, Xai, Xaj, Xak, Xal, Xam, Xan, Xao, Xap, Xaq, Xar, Xas, Xat, Xau, Xav, Xaw, Xax, Xay, Xaz, Xba, Xbb, awl, Xbc, Xbd, Xbe, Xbf, Xbg, Xbh, Xbi, Xbj, Xbk, Xbl, Xbm, Xbn, Xbo, Xbp, Xbq, ne_eq, srcRows, awo, aggEq, eqF, litEq, andO, qwl, qwo, qOp, Xbr, Xbs, Xbt, lop, Yaa, Yab, Xbu, Xbv, Xbw, oneK, Xbx, Xby, Xbz, Xca, Xcb, Xcc, Xcd, Xce, Xcf, Xcg, Xch, stepOp, Xci, Xcj, Xck, pairO, pureOp, heapOp, entry, slotsOf, ev, evL, evP, evO, lk, up, St.put, St.drop, constAV, cellAV, cellsAV, plain, binV, intBin, strBin, guardBit, boolOf, fnOf, intOfAV, bound, resOf, retV, moved, rowOf, valAt, Kd.agg, AV.cells, splice, places, fillAV, rowsFill, Hp.none, Yac, Yad, Yae, Yaf, ↓reduceIte, reduceCtorEq, Nat.reduceLT, Nat.reduceEqDiff, Nat.reduceAdd, Nat.reduceLeDiff, Nat.reducePow, Nat.reduceMul, Yay, Yaz, Yag, Yah, Yai, Yaj, Yak, Yal, Yam, Yan, Yao, Yap, Yaq, Yar, Yas, Yat, Yau, Yav, Yaw, Yax, Ybc, Ybd, Yba, Ybb, Yzz, tyW, encGr_length, encGr_take]
          refine CallQ_pure call59 (spec59 r.name) (by simp [Pure.lit]) (.lit _) ?_
          rcases al with ⟨⟨op, name, set, lz, ⟨gop, gn, gname, gkids⟩, kids, level, place⟩, right, cmds, pl⟩
          simp only [encA] at g2
          simp only [Xaa, Xab, Xac, Xad, Xae, Xaf, Xag, Xah, Xai, Xaj, Xak, Xal, Xam, Xan, Xao, Xap, Xaq, Xar, Xas, Xat, Xau, Xav, Xaw, Xax, Xay, Xaz, Xba, Xbb, awl, Xbc, Xbd, Xbe, Xbf, Xbg, Xbh, Xbi, Xbj, Xbk, Xbl, Xbm, Xbn, Xbo, Xbp, Xbq, ne_eq, srcRows, awo, aggEq, eqF, litEq, andO, qwl, qwo, qOp, Xbr, Xbs, Xbt, lop, Yaa, Yab, Xbu, Xbv, Xbw, oneK, Xbx, Xby, Xbz, Xca, Xcb, Xcc, Xcd, Xce, Xcf, Xcg, Xch, stepOp, Xci, Xcj, Xck, pairO, pureOp, heapOp, entry, slotsOf, ev, evL, evP, evO, lk, up, St.put, St.drop, constAV, cellAV, cellsAV, plain, binV, intBin, strBin, guardBit, boolOf, fnOf, intOfAV, bound, resOf, retV, moved, rowOf, valAt, Kd.agg, AV.cells, splice, places, fillAV, rowsFill, Hp.none, Yac, Yad, Yae, Yaf, ↓reduceIte, reduceCtorEq, Nat.reduceLT, Nat.reduceEqDiff, Nat.reduceAdd, Nat.reduceLeDiff, Nat.reducePow, Nat.reduceMul, Yay, Yaz, Yag, Yah, Yai, Yaj, Yak, Yal, Yam, Yan, Yao, Yap, Yaq, Yar, Yas, Yat, Yau, Yav, Yaw, Yax, Ybc, Ybd, Yba, Ybb, Yzz, tyW, encRl, List.length_map, g2, hkn, hkl', Int.toNat_natCast]
          refine CallQ_intro (v := .lit (.bool (emp g.rules q'.1 (capN r.name) (.mk op name set lz ⟨gop, gn, gname, gkids⟩ kids level place)))) call49 ?_ ?_
          · rw [← hql']
            exact kn_sub1 pg (.lit _) (pureE (.mk op name set lz ⟨gop, gn, gname, gkids⟩ kids level place)) (.lit _) 1 rfl (by show 1 < 3; decide) (rEmpty_specT g q'.1 (capN r.name) hg hql' _ hae)
          simp only [Xaa, Xab, Xac, Xad, Xae, Xaf, Xag, Xah, Xai, Xaj, Xak, Xal, Xam, Xan, Xao, Xap, Xaq, Xar, Xas, Xat, Xau, Xav, Xaw, Xax, Xay, Xaz, Xba, Xbb, awl, Xbc, Xbd, Xbe, Xbf, Xbg, Xbh, Xbi, Xbj, Xbk, Xbl, Xbm, Xbn, Xbo, Xbp, Xbq, ne_eq, srcRows, awo, aggEq, eqF, litEq, andO, qwl, qwo, qOp, Xbr, Xbs, Xbt, lop, Yaa, Yab, Xbu, Xbv, Xbw, oneK, Xbx, Xby, Xbz, Xca, Xcb, Xcc, Xcd, Xce, Xcf, Xcg, Xch, stepOp, Xci, Xcj, Xck, pairO, pureOp, heapOp, entry, slotsOf, ev, evL, evP, evO, lk, up, St.put, St.drop, constAV, cellAV, cellsAV, plain, binV, intBin, strBin, guardBit, boolOf, fnOf, intOfAV, bound, resOf, retV, moved, rowOf, valAt, Kd.agg, AV.cells, splice, places, fillAV, rowsFill, Hp.none, Yac, Yad, Yae, Yaf, ↓reduceIte, reduceCtorEq, Nat.reduceLT, Nat.reduceEqDiff, Nat.reduceAdd, Nat.reduceLeDiff, Nat.reducePow, Nat.reduceMul, Yay, Yaz, Yag, Yah, Yai, Yaj, Yak, Yal, Yam, Yan, Yao, Yap, Yaq, Yar, Yas, Yat, Yau, Yav, Yaw, Yax, Ybc, Ybd, Yba, Ybb, Yzz, tyW]
          cases hemp : emp g.rules q'.1 (capN r.name) (.mk op name set lz ⟨gop, gn, gname, gkids⟩ kids level place)
          · simp (disch := omega) only [Xaa, Xab, Xac, Xad, Xae, Xaf, Xag, Xah, Xai, Xaj, Xak, Xal, Xam, Xan, Xao, Xap, Xaq, Xar, Xas, Xat, Xau, Xav, Xaw, Xax, Xay, Xaz, Xba, Xbb, awl, Xbc, Xbd, Xbe, Xbf, Xbg, Xbh, Xbi, Xbj, Xbk, Xbl, Xbm, Xbn, Xbo, Xbp, Xbq, ne_eq, srcRows, awo, aggEq, eqF, litEq, andO, qwl, qwo, qOp, Xbr, Xbs, Xbt, lop, Yaa, Yab, Xbu, Xbv, Xbw, oneK, Xbx, Xby, Xbz, Xca, Xcb, Xcc, Xcd, Xce, Xcf, Xcg, Xch, stepOp, Xci, Xcj, Xck, pairO, pureOp, heapOp, entry, slotsOf, ev, evL, evP, evO, lk, up, St.put, St.drop, constAV, cellAV, cellsAV, plain, binV, intBin, strBin, guardBit, boolOf, fnOf, intOfAV, bound, resOf, retV, moved, rowOf, valAt, Kd.agg, AV.cells, splice, places, fillAV, rowsFill, Hp.none, Yac, Yad, Yae, Yaf, ↓reduceIte, reduceCtorEq, Nat.reduceLT, Nat.reduceEqDiff, Nat.reduceAdd, Nat.reduceLeDiff, Nat.reducePow, Nat.reduceMul, Yay, Yaz, Yag, Yah, Yai, Yaj, Yak, Yal, Yam, Yan, Yao, Yap, Yaq, Yar, Yas, Yat, Yau, Yav, Yaw, Yax, Ybc, Ybd, Yba, Ybb, Yzz, tyW, i64w]
            refine ⟨_, r.alts.length - (k + 1) + 1, St.wk.cp (St.wk_slots (by simp [lk])), by omega, k + 1, q', rfl, hql', by omega, .inl ⟨rfl, fun j x hj hjx => ?_, rfl⟩⟩
            rcases Nat.lt_succ_iff_lt_or_eq.1 hj with hj | rfl
            · exact h2 j x hj hjx
            · rw [hal] at hjx; cases hjx; exact hemp
          · have hrow : rowB (emp g.rules) q'.1 r = true := List.any_eq_true.2 ⟨_, ham, hemp⟩
            have hset : (q'.1.map bit).set i [AV.lit (.bool true)] = (q'.1.set i true).map bit := by rw [List.map_set]; rfl
            have hst2 : stp (emp g.rules) g.rules q' i = (q'.1.set i true, true) := by rw [hst, hrow, h1]; simp
            simp (disch := omega) only [Xaa, Xab, Xac, Xad, Xae, Xaf, Xag, Xah, Xai, Xaj, Xak, Xal, Xam, Xan, Xao, Xap, Xaq, Xar, Xas, Xat, Xau, Xav, Xaw, Xax, Xay, Xaz, Xba, Xbb, awl, Xbc, Xbd, Xbe, Xbf, Xbg, Xbh, Xbi, Xbj, Xbk, Xbl, Xbm, Xbn, Xbo, Xbp, Xbq, ne_eq, srcRows, awo, aggEq, eqF, litEq, andO, qwl, qwo, qOp, Xbr, Xbs, Xbt, lop, Yaa, Yab, Xbu, Xbv, Xbw, oneK, Xbx, Xby, Xbz, Xca, Xcb, Xcc, Xcd, Xce, Xcf, Xcg, Xch, stepOp, Xci, Xcj, Xck, pairO, pureOp, heapOp, entry, slotsOf, ev, evL, evP, evO, lk, up, St.put, St.drop, constAV, cellAV, cellsAV, plain, binV, intBin, strBin, guardBit, boolOf, fnOf, intOfAV, bound, resOf, retV, moved, rowOf, valAt, Kd.agg, AV.cells, splice, places, fillAV, rowsFill, Hp.none, Yac, Yad, Yae, Yaf, ↓reduceIte, reduceCtorEq, Nat.reduceLT, Nat.reduceEqDiff, Nat.reduceAdd, Nat.reduceLeDiff, Nat.reducePow, Nat.reduceMul, Yay, Yaz, Yag, Yah, Yai, Yaj, Yak, Yal, Yam, Yan, Yao, Yap, Yaq, Yar, Yas, Yat, Yau, Yav, Yaw, Yax, Ybc, Ybd, Yba, Ybb, Yzz, tyW, i64w, hin, hi1, List.length_map, hql', Int.toNat_natCast, hx, bit, Nat.zero_le, hset]
            refine ⟨_, 0, St.wk.cp (St.wk_slots ?_), by omega, k + 1, (q'.1.set i true, true), rfl, by simpa using hql', by omega, .inr ⟨?_, hst2, rfl⟩⟩
            · simp [lk]
            · have : i < q'.1.length := by omega
              simp [List.getD_eq_getElem?_getD, this]
        · rw [h2]
          simp (disch := omega) only [Xaa, Xab, Xac, Xad, Xae, Xaf, Xag, Xah, Xai, Xaj, Xak, Xal, Xam, Xan, Xao, Xap, Xaq, Xar, Xas, Xat, Xau, Xav, Xaw, Xax, Xay, Xaz, Xba, Xbb, awl, Xbc, Xbd, Xbe, Xbf, Xbg, Xbh, Xbi, Xbj, Xbk, Xbl, Xbm, Xbn, Xbo, Xbp, Xbq, ne_eq, srcRows, awo, aggEq, eqF, litEq, andO, qwl, qwo, qOp, Xbr, Xbs, Xbt, lop, Yaa, Yab, Xbu, Xbv, Xbw, oneK, Xbx, Xby, Xbz, Xca, Xcb, Xcc, Xcd, Xce, Xcf, Xcg, Xch, stepOp, Xci, Xcj, Xck, pairO, pureOp, heapOp, entry, slotsOf, ev, evL, evP, evO, lk, up, St.put, St.drop, constAV, cellAV, cellsAV, plain, binV, intBin, strBin, guardBit, boolOf, fnOf, intOfAV, bound, resOf, retV, moved, rowOf, valAt, Kd.agg, AV.cells, splice, places, fillAV, rowsFill, Hp.none, Yac, Yad, Yae, Yaf, ↓reduceIte, reduceCtorEq, Nat.reduceLT, Nat.reduceEqDiff, Nat.reduceAdd, Nat.reduceLeDiff, Nat.reducePow, Nat.reduceMul, Yay, Yaz, Yag, Yah, Yai, Yaj, Yak, Yal, Yam, Yan, Yao, Yap, Yaq, Yar, Yas, Yat, Yau, Yav, Yaw, Yax, Ybc, Ybd, Yba, Ybb, Yzz, tyW, encRl, List.length_map, hkl, hin, hi1, knT, hql', Int.toNat_natCast, hx, bit, h1, i64w]
          exact ⟨(), back rfl rfl rfl rfl rfl⟩
    · rintro _ _
      simp only [Xaa, Xab, Xac, Xad, Xae, Xaf, Xag, Xah, Xai, Xaj, Xak, Xal, Xam, Xan, Xao, Xap, Xaq, Xar, Xas, Xat, Xau, Xav, Xaw, Xax, Xay, Xaz, Xba, Xbb, awl, Xbc, Xbd, Xbe, Xbf, Xbg, Xbh, Xbi, Xbj, Xbk, Xbl, Xbm, Xbn, Xbo, Xbp, Xbq, ne_eq, srcRows, awo, aggEq, eqF, litEq, andO, qwl, qwo, qOp, Xbr, Xbs, Xbt, lop, Yaa, Yab, Xbu, Xbv, Xbw, oneK, Xbx, Xby, Xbz, Xca, Xcb, Xcc, Xcd, Xce, Xcf, Xcg, Xch, stepOp, Xci, Xcj, Xck, pairO, pureOp, heapOp, entry, slotsOf, ev, evL, evP, evO, lk, up, St.put, St.drop, constAV, cellAV, cellsAV, plain, binV, intBin, strBin, guardBit, boolOf, fnOf, intOfAV, bound, resOf, retV, moved, rowOf, valAt, Kd.agg, AV.cells, splice, places, fillAV, rowsFill, Hp.none, Yac, Yad, Yae, Yaf, ↓reduceIte, reduceCtorEq, Nat.reduceLT, Nat.reduceEqDiff, Nat.reduceAdd, Nat.reduceLeDiff, Nat.reducePow, Nat.reduceMul, Yay, Yaz, Yag, Yah, Yai, Yaj, Yak, Yal, Yam, Yan, Yao, Yap, Yaq, Yar, Yas, Yat, Yau, Yav, Yaw, Yax, Ybc, Ybd, Yba, Ybb, Yzz, tyW, rrH, encGr, List.length_map]
      refine .intro (fun hb => absurd (of_decide_eq_true hb) (by omega)) (fun _ => ?_)
      simp only [Xaa, Xab, Xac, Xad, Xae, Xaf, Xag, Xah, Xai, Xaj, Xak, Xal, Xam, Xan, Xao, Xap, Xaq, Xar, Xas, Xat, Xau, Xav, Xaw, Xax, Xay, Xaz, Xba, Xbb, awl, Xbc, Xbd, Xbe, Xbf, Xbg, Xbh, Xbi, Xbj, Xbk, Xbl, Xbm, Xbn, Xbo, Xbp, Xbq, ne_eq, srcRows, awo, aggEq, eqF, litEq, andO, qwl, qwo, qOp, Xbr, Xbs, Xbt, lop, Yaa, Yab, Xbu, Xbv, Xbw, oneK, Xbx, Xby, Xbz, Xca, Xcb, Xcc, Xcd, Xce, Xcf, Xcg, Xch, stepOp, Xci, Xcj, Xck, pairO, pureOp, heapOp, entry, slotsOf, ev, evL, evP, evO, lk, up, St.put, St.drop, constAV, cellAV, cellsAV, plain, binV, intBin, strBin, guardBit, boolOf, fnOf, intOfAV, bound, resOf, retV, moved, rowOf, valAt, Kd.agg, AV.cells, splice, places, fillAV, rowsFill, Hp.none, Yac, Yad, Yae, Yaf, ↓reduceIte, reduceCtorEq, Nat.reduceLT, Nat.reduceEqDiff, Nat.reduceAdd, Nat.reduceLeDiff, Nat.reducePow, Nat.reduceMul, Yay, Yaz, Yag, Yah, Yai, Yaj, Yak, Yal, Yam, Yan, Yao, Yap, Yaq, Yar, Yas, Yat, Yau, Yav, Yaw, Yax, Ybc, Ybd, Yba, Ybb, Yzz, tyW]
      have hql := pas_len (ask := emp g.rules) (rs := g.rules) g.rules.length kn
      rcases pas_flag (ask := emp g.rules) (rs := g.rules) g.rules.length kn hl with ⟨h1, h2⟩ | ⟨h1, h2⟩
      · refine ⟨⟨[(1, .ptr 0 0), (3, .own 1 g.rules.length), (4, .lit (.bool false))], rrH g kn, 55⟩, 0, ?_, by omega, a, kn, hkn, hl, .inr ⟨rfl, by omega, h2, rfl⟩⟩
        rw [h1, h2]
        exact St.wk.cp (St.wk_slots (by simp [lk]))
      · refine ⟨⟨[(1, .ptr 0 0), (3, .own 1 g.rules.length), (4, .lit (.bool true))], rrH g (pas (emp g.rules) g.rules g.rules.length kn).1, 55⟩, cf (pas (emp g.rules) g.rules g.rules.length kn).1 + 1, ?_, by omega, a + 1, _, by rw [itr_snoc, ← hkn], by omega, .inl ⟨rfl, by omega, rfl⟩⟩
        rw [h1]
        exact St.wk.cp (St.wk_slots (by simp [lk]))
  · have hfix := fix_of ha hkn hfx
    simp only [Xaa, Xab, Xac, Xad, Xae, Xaf, Xag, Xah, Xai, Xaj, Xak, Xal, Xam, Xan, Xao, Xap, Xaq, Xar, Xas, Xat, Xau, Xav, Xaw, Xax, Xay, Xaz, Xba, Xbb, awl, Xbc, Xbd, Xbe, Xbf, Xbg, Xbh, Xbi, Xbj, Xbk, Xbl, Xbm, Xbn, Xbo, Xbp, Xbq, ne_eq, srcRows, awo, aggEq, eqF, litEq, andO, qwl, qwo, qOp, Xbr, Xbs, Xbt, lop, Yaa, Yab, Xbu, Xbv, Xbw, oneK, Xbx, Xby, Xbz, Xca, Xcb, Xcc, Xcd, Xce, Xcf, Xcg, Xch, stepOp, Xci, Xcj, Xck, pairO, pureOp, heapOp, entry, slotsOf, ev, evL, evP, evO, lk, up, St.put, St.drop, constAV, cellAV, cellsAV, plain, binV, intBin, strBin, guardBit, boolOf, fnOf, intOfAV, bound, resOf, retV, moved, rowOf, valAt, Kd.agg, AV.cells, splice, places, fillAV, rowsFill, Hp.none, Yac, Yad, Yae, Yaf, ↓reduceIte, reduceCtorEq, Nat.reduceLT, Nat.reduceEqDiff, Nat.reduceAdd, Nat.reduceLeDiff, Nat.reducePow, Nat.reduceMul, Yay, Yaz, Yag, Yah, Yai, Yaj, Yak, Yal, Yam, Yan, Yao, Yap, Yaq, Yar, Yas, Yat, Yau, Yav, Yaw, Yax, Ybc, Ybd, Yba, Ybb, Yzz, tyW]
    refine ⟨⟨[(2, .own 0 g.rules.length)], knH kn, 55⟩, St.cp_of 0 [1] (by show 0 ≤ 2; decide) rfl rfl (by decide) (by show ∀ x ∈ [1], 0 ≤ x ∧ x < 2; decide) (allc ⟨_, rfl, .own (by show 0 < 1; decide) rfl⟩ alln) alln (allc ⟨by show 0 < 1; decide, _, rfl, rfl, rfl, knT_rn kn⟩ alln), ?_⟩
    rw [show rulesE g.rules = kn from hfix]
    exact ⟨rfl, rfl⟩

theorem spec50 (g : Gr) (hg : grsz g ≤ 1000000000) : PCall Try.prog 50 [.agg (encGr g)] (.vec ((rulesE g.rules).map bit) false) := by
  refine PCall_of_SCall ((rRules_spec g hg).mono ?_)
  rintro r h' ⟨rfl, rfl⟩
  exact expo_own (k := knT (rulesE g.rules)) rfl (by simp [knT, rulesE_len]) (pure_rows pure_bit _)

theorem spec30 (g : Gr) (lx : Bool) (e : El) (hg : grsz g ≤ 1000000000) (he : esz e ≤ 1000000000) : PCall Try.prog 30 [.agg (encGr g), .lit (.bool lx), .agg (encE e)] (.lit (.bool (emp g.rules (rulesE g.rules) lx e))) := by
  have pg := pureGr g
  have pr : Pure (.vec ((rulesE g.rules).map bit) false) := .vec (pure_rows pure_bit _)
  refine PCall_intro Try.func30 rfl Try.ntmps30 (rs := [.tmp 6]) rfl (by simp) ?_
  simp only [Xaa, Xab, Xac, Xad, Xae, Xaf, Xag, Xah, Xai, Xaj, Xak, Xal, Xam, Xan, Xao, Xap, Xaq, Xar, Xas, Xat, Xau, Xav, Xaw, Xax, Xay, Xaz, Xba, Xbb, awl, Xbc, Xbd, Xbe, Xbf, Xbg, Xbh, Xbi, Xbj, Xbk, Xbl, Xbm, Xbn, Xbo, Xbp, Xbq, ne_eq, srcRows, awo, aggEq, eqF, litEq, andO, qwl, qwo, qOp, Xbr, Xbs, Xbt, lop, Yaa, Yab, Xbu, Xbv, Xbw, oneK, Xbx, Xby, Xbz, Xca, Xcb, Xcc, Xcd, Xce, Xcf, Xcg, Xch, stepOp, Xci, Xcj, Xck, pairO, pureOp, heapOp, entry, slotsOf, ev, evL, evP, evO, lk, up, St.put, St.drop, constAV, cellAV, cellsAV, plain, binV, intBin, strBin, guardBit, boolOf, fnOf, intOfAV, bound, resOf, retV, moved, rowOf, valAt, Kd.agg, AV.cells, splice, places, fillAV, rowsFill, Hp.none, Yac, Yad, Yae, Yaf, ↓reduceIte, reduceCtorEq, Nat.reduceLT, Nat.reduceEqDiff, Nat.reduceAdd, Nat.reduceLeDiff, Nat.reducePow, Nat.reduceMul, Yay, Yaz, Yag, Yah, Yai, Yaj, Yak, Yal, Yam, Yan, Yao, Yap, Yaq, Yar, Yas, Yat, Yau, Yav, Yaw, Yax, Ybc, Ybd, Yba, Ybb, Yzz, tyW, encE_length, encE_take]
  refine aw_quietN (n := 13) rfl (by decide) mixed ?_
  simp only [Xaa, Xab, Xac, Xad, Xae, Xaf, Xag, Xah, Xai, Xaj, Xak, Xal, Xam, Xan, Xao, Xap, Xaq, Xar, Xas, Xat, Xau, Xav, Xaw, Xax, Xay, Xaz, Xba, Xbb, awl, Xbc, Xbd, Xbe, Xbf, Xbg, Xbh, Xbi, Xbj, Xbk, Xbl, Xbm, Xbn, Xbo, Xbp, Xbq, ne_eq, srcRows, awo, aggEq, eqF, litEq, andO, qwl, qwo, qOp, Xbr, Xbs, Xbt, lop, Yaa, Yab, Xbu, Xbv, Xbw, oneK, Xbx, Xby, Xbz, Xca, Xcb, Xcc, Xcd, Xce, Xcf, Xcg, Xch, stepOp, Xci, Xcj, Xck, pairO, pureOp, heapOp, entry, slotsOf, ev, evL, evP, evO, lk, up, St.put, St.drop, constAV, cellAV, cellsAV, plain, binV, intBin, strBin, guardBit, boolOf, fnOf, intOfAV, bound, resOf, retV, moved, rowOf, valAt, Kd.agg, AV.cells, splice, places, fillAV, rowsFill, Hp.none, Yac, Yad, Yae, Yaf, ↓reduceIte, reduceCtorEq, Nat.reduceLT, Nat.reduceEqDiff, Nat.reduceAdd, Nat.reduceLeDiff, Nat.reducePow, Nat.reduceMul, Yay, Yaz, Yag, Yah, Yai, Yaj, Yak, Yal, Yam, Yan, Yao, Yap, Yaq, Yar, Yas, Yat, Yau, Yav, Yaw, Yax, Ybc, Ybd, Yba, Ybb, Yzz, tyW, encGr_length, encGr_take]
  refine CallQ_pure call50 (spec50 g hg) (by simpa using pg) pr ?_
  simp only [Xaa, Xab, Xac, Xad, Xae, Xaf, Xag, Xah, Xai, Xaj, Xak, Xal, Xam, Xan, Xao, Xap, Xaq, Xar, Xas, Xat, Xau, Xav, Xaw, Xax, Xay, Xaz, Xba, Xbb, awl, Xbc, Xbd, Xbe, Xbf, Xbg, Xbh, Xbi, Xbj, Xbk, Xbl, Xbm, Xbn, Xbo, Xbp, Xbq, ne_eq, srcRows, awo, aggEq, eqF, litEq, andO, qwl, qwo, qOp, Xbr, Xbs, Xbt, lop, Yaa, Yab, Xbu, Xbv, Xbw, oneK, Xbx, Xby, Xbz, Xca, Xcb, Xcc, Xcd, Xce, Xcf, Xcg, Xch, stepOp, Xci, Xcj, Xck, pairO, pureOp, heapOp, entry, slotsOf, ev, evL, evP, evO, lk, up, St.put, St.drop, constAV, cellAV, cellsAV, plain, binV, intBin, strBin, guardBit, boolOf, fnOf, intOfAV, bound, resOf, retV, moved, rowOf, valAt, Kd.agg, AV.cells, splice, places, fillAV, rowsFill, Hp.none, Yac, Yad, Yae, Yaf, ↓reduceIte, reduceCtorEq, Nat.reduceLT, Nat.reduceEqDiff, Nat.reduceAdd, Nat.reduceLeDiff, Nat.reducePow, Nat.reduceMul, Yay, Yaz, Yag, Yah, Yai, Yaj, Yak, Yal, Yam, Yan, Yao, Yap, Yaq, Yar, Yas, Yat, Yau, Yav, Yaw, Yax, Ybc, Ybd, Yba, Ybb, Yzz, tyW, encE_length, encE_take]
  refine CallQ_intro (v := .lit (.bool (emp g.rules (rulesE g.rules) lx e))) call49 ?_ ?_
  · have h := rEmpty_specF g (rulesE g.rules) lx hg (rulesE_len _) e he
    refine QCall.sub (hs := knB (rulesE g.rules) false) (r0 := .lit (.bool (emp g.rules (rulesE g.rules) lx e))) (av := [.agg (encGr g), .vec ((rulesE g.rules).map bit) false, .lit (.bool lx), .agg (encE e)]) [0] rfl (by decide) (by show ∀ x ∈ [0], x < 2; decide) (.pure (by simp [Pure.lit]; exact ⟨pg, pr, pureE e⟩)) alln alln ?_ h (.pure (.lit _))
    intro i _ _; rfl
  simp only [Xaa, Xab, Xac, Xad, Xae, Xaf, Xag, Xah, Xai, Xaj, Xak, Xal, Xam, Xan, Xao, Xap, Xaq, Xar, Xas, Xat, Xau, Xav, Xaw, Xax, Xay, Xaz, Xba, Xbb, awl, Xbc, Xbd, Xbe, Xbf, Xbg, Xbh, Xbi, Xbj, Xbk, Xbl, Xbm, Xbn, Xbo, Xbp, Xbq, ne_eq, srcRows, awo, aggEq, eqF, litEq, andO, qwl, qwo, qOp, Xbr, Xbs, Xbt, lop, Yaa, Yab, Xbu, Xbv, Xbw, oneK, Xbx, Xby, Xbz, Xca, Xcb, Xcc, Xcd, Xce, Xcf, Xcg, Xch, stepOp, Xci, Xcj, Xck, pairO, pureOp, heapOp, entry, slotsOf, ev, evL, evP, evO, lk, up, St.put, St.drop, constAV, cellAV, cellsAV, plain, binV, intBin, strBin, guardBit, boolOf, fnOf, intOfAV, bound, resOf, retV, moved, rowOf, valAt, Kd.agg, AV.cells, splice, places, fillAV, rowsFill, Hp.none, Yac, Yad, Yae, Yaf, ↓reduceIte, reduceCtorEq, Nat.reduceLT, Nat.reduceEqDiff, Nat.reduceAdd, Nat.reduceLeDiff, Nat.reducePow, Nat.reduceMul, Yay, Yaz, Yag, Yah, Yai, Yaj, Yak, Yal, Yam, Yan, Yao, Yap, Yaq, Yar, Yas, Yat, Yau, Yav, Yaw, Yax, Ybc, Ybd, Yba, Ybb, Yzz, tyW]
  exact expo_pure (.lit _)
end Go.Proofs.Ytkbnnipiacajoaa
