/- Contract: which places come back to themselves. Conditions: those that each theorem names. -/
import Derived.Test.YtogdlomemaoajaaMore3
namespace Go.Proofs.Ytogdlomemaoajaa
open Go.Ab
set_option linter.unusedSimpArgs false
set_option linter.unusedVariables false
set_option maxRecDepth 20000

def wToks (k : Nat) : List Int → List (Nat × Tk)
  | [] => []
  | w :: l => (k, wT w) :: wToks (k + 1) l
theorem lk_wToks : ∀ (ws : List Int) (k i : Nat), lk (wToks k ws) (k + i) = ws[i]?.map wT
  | [], k, i => rfl
  | w :: l, k, 0 => by simp [wToks, lk]
  | w :: l, k, i + 1 => by
    have h : ¬ k = k + (i + 1) := by omega
    simp only [wToks, lk, if_neg h, List.getElem?_cons_succ]
    rw [show k + (i + 1) = k + 1 + i by omega]
    exact lk_wToks l (k + 1) i
theorem lk_wToks_lt : ∀ (ws : List Int) (k j : Nat), j < k → lk (wToks k ws) j = none
  | [], k, j, _ => rfl
  | w :: l, k, j, h => by
    have h1 : ¬ k = j := by omega
    simp only [wToks, lk, if_neg h1]
    exact lk_wToks_lt l (k + 1) j (by omega)
theorem up_wToks : ∀ (ws : List Int) (k i : Nat) (w : Int), up (wToks k ws) (k + i) (wT w) = wToks k (ws.set i w)
  | [], k, i, w => rfl
  | x :: l, k, 0, w => by simp [wToks, up]
  | x :: l, k, i + 1, w => by
    have h : ¬ k = k + (i + 1) := by omega
    simp only [wToks, up, if_neg h, List.set_cons_succ]
    rw [show k + (i + 1) = k + 1 + i by omega, up_wToks l (k + 1) i w]
theorem mem_wToks : ∀ (ws : List Int) (k : Nat) (p : Nat × Tk), p ∈ wToks k ws → k ≤ p.1 ∧ p.1 < k + ws.length ∧ ∃ w, p.2 = wT w
  | [], k, p, h => by cases h
  | w :: l, k, p, h => by
    simp only [wToks, List.mem_cons] at h
    rcases h with rfl | h
    · exact ⟨Nat.le_refl _, by simp, w, rfl⟩
    · obtain ⟨h1, h2, h3⟩ := mem_wToks l (k + 1) p h
      exact ⟨by omega, by simp; omega, h3⟩
def wayR (m : Nat) : List (List AV) := (List.range m).map fun i => [.own (i + 1) 1]
theorem wayR_len (m : Nat) : (wayR m).length = m := by simp [wayR]
theorem wayR_get {m i : Nat} (h : i < m) : (wayR m)[i]? = some [.own (i + 1) 1] := by simp [wayR, h]
def ringH (m : Nat) (ws : List Int) : Hp := ⟨[], (0, ⟨wayR m, 0, 1⟩) :: wToks 1 ws, m + 1⟩
def jn (i : Nat) (q : List Int × Bool) (k : Nat) : List Int × Bool := (q.1.set i (orW (q.1.getD i 0) (q.1.getD k 0)), (orW (q.1.getD i 0) (q.1.getD k 0) != q.1.getD i 0) || q.2)
def rg (m : Nat) (q : List Int × Bool) (i : Nat) : List Int × Bool := (plL m (q.1.getD i 0)).foldl (jn i) q
def ringP (ws : List Int) : List Int × Bool := (List.range ws.length).foldl (rg ws.length) (ws, false)
def ringF : Nat → List Int → Option (List Int)
  | 0, _ => none
  | n + 1, ws => if (ringP ws).2 then ringF n (ringP ws).1 else some (ringP ws).1
theorem jn_len (i : Nat) (q : List Int × Bool) (k : Nat) : (jn i q k).1.length = q.1.length := by simp [jn]
theorem foldl_jn_len (i : Nat) (l : List Nat) (q : List Int × Bool) : (l.foldl (jn i) q).1.length = q.1.length := by
  induction l generalizing q with
  | nil => rfl
  | cons a l ih => simp only [List.foldl_cons]; rw [ih, jn_len]
theorem rg_len (m : Nat) (q : List Int × Bool) (i : Nat) : (rg m q i).1.length = q.1.length := foldl_jn_len _ _ _
theorem foldl_rg_len (m : Nat) (l : List Nat) (q : List Int × Bool) : (l.foldl (rg m) q).1.length = q.1.length := by
  induction l generalizing q with
  | nil => rfl
  | cons a l ih => simp only [List.foldl_cons]; rw [ih, rg_len]
def rgR (ws : List Int) : List Nat := (List.range ws.length).filter fun i => getW (ws.getD i 0) i

theorem lk_ring {us : List Int} {i : Nat} {k : Tk} (h : i < us.length) : lk ((0, k) :: wToks 1 us) (i + 1) = some (wT (us.getD i 0)) := by
  have h1 := lk_wToks us 1 i
  rw [Nat.add_comm 1 i] at h1
  simp only [lk, (by omega : ¬ 0 = i + 1), if_false, h1]
  simp [List.getD_eq_getElem?_getD, h]
theorem up_ring {us : List Int} {i : Nat} {k : Tk} {w : Int} : up ((0, k) :: wToks 1 us) (i + 1) (wT w) = (0, k) :: wToks 1 (us.set i w) := by
  have h1 := up_wToks us 1 i w
  rw [Nat.add_comm 1 i] at h1
  rw [up, if_neg (by omega), h1]
theorem plL_lt {n k : Nat} {w : Int} (h : k ∈ plL n w) : k < n := by simp only [plL, List.mem_filter, List.mem_range] at h; exact h.1
theorem plL_len (n : Nat) (w : Int) : (plL n w).length ≤ n := by simp only [plL]; exact Nat.le_trans (List.length_filter_le _ _) (by simp)
theorem flt_succ (p : Nat → Bool) (i : Nat) : ((List.range (i + 1)).filter p).map encI = if p i then ((List.range i).filter p).map encI ++ [encI i] else ((List.range i).filter p).map encI := by
  rw [List.range_succ, List.filter_append, List.map_append]
  cases h : p i <;> simp [h]
theorem up_app : ∀ (L : List (Nat × Tk)) {i : Nat} {k k' : Tk}, lk L i = none → up (L ++ [(i, k)]) i k' = L ++ [(i, k')]
  | [], i, k, k', _ => by simp [up]
  | (j, x) :: L, i, k, k', h => by
    have hj : ¬ j = i := fun q => by rw [lk, if_pos q] at h; cases h
    rw [lk, if_neg hj] at h
    rw [List.cons_append, up, if_neg hj, up_app L h]; rfl
theorem St.wk_slots1' {sl sl' : List (Nat × AV)} {bx : List (Nat × List AV)} {tk tk' : List (Nat × Tk)} {nx n : Nat} (hs : ∀ p ∈ sl', lk sl p.1 = some p.2) (ht : ∀ t, lk tk t = lk tk' t) : St.wk ⟨sl, ⟨bx, tk, nx⟩, n⟩ ⟨sl', ⟨bx, tk', nx⟩, n⟩ :=
  fun g0 h0 w0 g w a r => ⟨g, ⟨r.st.less rfl (fun i c e => e) (fun i c e => (ht i).trans e), fun s v e => r.slots s v (hs _ (lk_mem e)), r.nt, r.defers⟩⟩
theorem rings_spec (fuel : Nat) (ws ws' : List Int) (m : Nat) (hf : ringF fuel ws = some ws') (hw : ws.length = m) (hm : m ≤ 60) :
    SCall Try.prog 21 [.own 0 m] (ringH m ws) (fun r h' => r = grA (m + 1) ((rgR ws').map encI) ∧ h' = ⟨[], (0, ⟨wayR m, 0, 1⟩) :: (wToks 1 ws' ++ grT (m + 1) 1 ((rgR ws').map encI)), grN (m + 1) ((rgR ws').map encI)⟩) := by
  refine SCall_introC Try.func21 rfl Try.ntmps21 (rs := [.tmp 2]) rfl (by simp) (N := m + 1) rfl ?_
  simp only [Xaa, Xab, Xac, Xad, Xae, Xaf, Xag, Xah, Xai, Xaj, Xak, Xal, Xam, Xan, Xao, Xap, Xaq, Xar, Xas, Xat, Xau, Xav, Xaw, Xax, Xay, Xaz, Xba, Xbb, awl, Xbc, Xbd, Xbe, Xbf, Xbg, Xbh, Xbi, Xbj, Xbk, Xbl, Xbm, Xbn, Xbo, Xbp, Xbq, ne_eq, srcRows, awo, aggEq, eqF, litEq, andO, qwl, qwo, qOp, Xbr, Xbs, Xbt, lop, Yaa, Yab, Xbu, Xbv, Xbw, oneK, Xbx, Xby, Xbz, Xca, Xcb, Xcc, Xcd, Xce, Xcf, Xcg, Xch, stepOp, Xci, Xcj, Xck, pairO, pureOp, heapOp, entry, slotsOf, ev, evL, evP, evO, lk, up, St.put, St.drop, constAV, cellAV, cellsAV, plain, binV, intBin, strBin, guardBit, boolOf, fnOf, intOfAV, bound, resOf, retV, moved, rowOf, valAt, Kd.agg, AV.cells, splice, places, fillAV, rowsFill, Hp.none, Yac, Yad, Yae, Yaf, ↓reduceIte, reduceCtorEq, Nat.reduceLT, Nat.reduceEqDiff, Nat.reduceAdd, Nat.reduceLeDiff, Nat.reducePow, Nat.reduceMul, Yay, Yaz, Yag, Yah, Yai, Yaj, Yak, Yal, Yam, Yan, Yao, Yap, Yaq, Yar, Yas, Yat, Yau, Yav, Yaw, Yax, Ybc, Ybd, Yba, Ybb, Yzz, tyW, ringH]
  refine aw_scope_cutC 0 (m + 1) rfl rfl (Nat.le_refl _) (fun n σ => ∃ us, us.length = m ∧ ringF n us = some ws' ∧ σ = ⟨[(0, .own 0 m), (2, .vec [] true)], ringH m us, 53⟩) ?_ fuel ?_ ?_
  · rintro n σ ⟨us, _, _, rfl⟩; rfl
  · simp only [Xaa, Xab, Xac, Xad, Xae, Xaf, Xag, Xah, Xai, Xaj, Xak, Xal, Xam, Xan, Xao, Xap, Xaq, Xar, Xas, Xat, Xau, Xav, Xaw, Xax, Xay, Xaz, Xba, Xbb, awl, Xbc, Xbd, Xbe, Xbf, Xbg, Xbh, Xbi, Xbj, Xbk, Xbl, Xbm, Xbn, Xbo, Xbp, Xbq, ne_eq, srcRows, awo, aggEq, eqF, litEq, andO, qwl, qwo, qOp, Xbr, Xbs, Xbt, lop, Yaa, Yab, Xbu, Xbv, Xbw, oneK, Xbx, Xby, Xbz, Xca, Xcb, Xcc, Xcd, Xce, Xcf, Xcg, Xch, stepOp, Xci, Xcj, Xck, pairO, pureOp, heapOp, entry, slotsOf, ev, evL, evP, evO, lk, up, St.put, St.drop, constAV, cellAV, cellsAV, plain, binV, intBin, strBin, guardBit, boolOf, fnOf, intOfAV, bound, resOf, retV, moved, rowOf, valAt, Kd.agg, AV.cells, splice, places, fillAV, rowsFill, Hp.none, Yac, Yad, Yae, Yaf, ↓reduceIte, reduceCtorEq, Nat.reduceLT, Nat.reduceEqDiff, Nat.reduceAdd, Nat.reduceLeDiff, Nat.reducePow, Nat.reduceMul, Yay, Yaz, Yag, Yah, Yai, Yaj, Yak, Yal, Yam, Yan, Yao, Yap, Yaq, Yar, Yas, Yat, Yau, Yav, Yaw, Yax, Ybc, Ybd, Yba, Ybb, Yzz, tyW]
    exact ⟨_, St.wk_slots (by simp [lk]), ws, hw, hf, rfl⟩
  · rintro n σ ⟨us, hul, huf, rfl⟩
    simp only [Xaa, Xab, Xac, Xad, Xae, Xaf, Xag, Xah, Xai, Xaj, Xak, Xal, Xam, Xan, Xao, Xap, Xaq, Xar, Xas, Xat, Xau, Xav, Xaw, Xax, Xay, Xaz, Xba, Xbb, awl, Xbc, Xbd, Xbe, Xbf, Xbg, Xbh, Xbi, Xbj, Xbk, Xbl, Xbm, Xbn, Xbo, Xbp, Xbq, ne_eq, srcRows, awo, aggEq, eqF, litEq, andO, qwl, qwo, qOp, Xbr, Xbs, Xbt, lop, Yaa, Yab, Xbu, Xbv, Xbw, oneK, Xbx, Xby, Xbz, Xca, Xcb, Xcc, Xcd, Xce, Xcf, Xcg, Xch, stepOp, Xci, Xcj, Xck, pairO, pureOp, heapOp, entry, slotsOf, ev, evL, evP, evO, lk, up, St.put, St.drop, constAV, cellAV, cellsAV, plain, binV, intBin, strBin, guardBit, boolOf, fnOf, intOfAV, bound, resOf, retV, moved, rowOf, valAt, Kd.agg, AV.cells, splice, places, fillAV, rowsFill, Hp.none, Yac, Yad, Yae, Yaf, ↓reduceIte, reduceCtorEq, Nat.reduceLT, Nat.reduceEqDiff, Nat.reduceAdd, Nat.reduceLeDiff, Nat.reducePow, Nat.reduceMul, Yay, Yaz, Yag, Yah, Yai, Yaj, Yak, Yal, Yam, Yan, Yao, Yap, Yaq, Yar, Yas, Yat, Yau, Yav, Yaw, Yax, Ybc, Ybd, Yba, Ybb, Yzz, tyW, ringH, wayR_len]
    refine aw_for m (m + 1) (fun i (q : List Int × Bool) => ⟨[(0, .own 0 m), (2, .vec [] true), (3, .lit (.bool q.2)), (10, .own 0 m), (11, .lit (.int .i64 m)), (12, .lit (.int .i64 i))], ringH m q.1, 53⟩) (fun i q => q = (List.range i).foldl (rg m) (us, false)) (fun _ _ => rfl) (us, false) (St.wk_slots (by simp [lk])) rfl ?_ ?_
    · rintro i q hi hq
      have hi1 : (i : Int) < (m : Int) := by omega
      have hin : (0 : Int) ≤ (i : Int) := Int.natCast_nonneg i
      have hql : q.1.length = m := by rw [hq, foldl_rg_len]; exact hul
      have hnext : rg m q i = (List.range (i + 1)).foldl (rg m) (us, false) := by rw [List.range_succ, List.foldl_append, ← hq]; rfl
      have hwg := wayR_get hi
      have z0 : (0 = i + 1) = False := by simp
      simp only [Xaa, Xab, Xac, Xad, Xae, Xaf, Xag, Xah, Xai, Xaj, Xak, Xal, Xam, Xan, Xao, Xap, Xaq, Xar, Xas, Xat, Xau, Xav, Xaw, Xax, Xay, Xaz, Xba, Xbb, awl, Xbc, Xbd, Xbe, Xbf, Xbg, Xbh, Xbi, Xbj, Xbk, Xbl, Xbm, Xbn, Xbo, Xbp, Xbq, ne_eq, srcRows, awo, aggEq, eqF, litEq, andO, qwl, qwo, qOp, Xbr, Xbs, Xbt, lop, Yaa, Yab, Xbu, Xbv, Xbw, oneK, Xbx, Xby, Xbz, Xca, Xcb, Xcc, Xcd, Xce, Xcf, Xcg, Xch, stepOp, Xci, Xcj, Xck, pairO, pureOp, heapOp, entry, slotsOf, ev, evL, evP, evO, lk, up, St.put, St.drop, constAV, cellAV, cellsAV, plain, binV, intBin, strBin, guardBit, boolOf, fnOf, intOfAV, bound, resOf, retV, moved, rowOf, valAt, Kd.agg, AV.cells, splice, places, fillAV, rowsFill, Hp.none, Yac, Yad, Yae, Yaf, ↓reduceIte, reduceCtorEq, Nat.reduceLT, Nat.reduceEqDiff, Nat.reduceAdd, Nat.reduceLeDiff, Nat.reducePow, Nat.reduceMul, Yay, Yaz, Yag, Yah, Yai, Yaj, Yak, Yal, Yam, Yan, Yao, Yap, Yaq, Yar, Yas, Yat, Yau, Yav, Yaw, Yax, Ybc, Ybd, Yba, Ybb, Yzz, tyW, ringH]
      refine .intro (fun hb => ?_) (fun hb => ?_)
      case' refine_2 => exfalso; exact of_decide_eq_false hb hi1
      clear hb
      rw [Xaa, Xam, Xad]
      simp only [Xaa, Xab, Xac, Xad, Xae, Xaf, Xag, Xah, Xai, Xaj, Xak, Xal, Xam, Xan, Xao, Xap, Xaq, Xar, Xas, Xat, Xau, Xav, Xaw, Xax, Xay, Xaz, Xba, Xbb, awl, Xbc, Xbd, Xbe, Xbf, Xbg, Xbh, Xbi, Xbj, Xbk, Xbl, Xbm, Xbn, Xbo, Xbp, Xbq, ne_eq, srcRows, awo, aggEq, eqF, litEq, andO, qwl, qwo, qOp, Xbr, Xbs, Xbt, lop, Yaa, Yab, Xbu, Xbv, Xbw, oneK, Xbx, Xby, Xbz, Xca, Xcb, Xcc, Xcd, Xce, Xcf, Xcg, Xch, stepOp, Xci, Xcj, Xck, pairO, pureOp, heapOp, entry, slotsOf, ev, evL, evP, evO, lk, up, St.put, St.drop, constAV, cellAV, cellsAV, plain, binV, intBin, strBin, guardBit, boolOf, fnOf, intOfAV, bound, resOf, retV, moved, rowOf, valAt, Kd.agg, AV.cells, splice, places, fillAV, rowsFill, Hp.none, Yac, Yad, Yae, Yaf, ↓reduceIte, reduceCtorEq, Nat.reduceLT, Nat.reduceEqDiff, Nat.reduceAdd, Nat.reduceLeDiff, Nat.reducePow, Nat.reduceMul, Yay, Yaz, Yag, Yah, Yai, Yaj, Yak, Yal, Yam, Yan, Yao, Yap, Yaq, Yar, Yas, Yat, Yau, Yav, Yaw, Yax, Ybc, Ybd, Yba, Ybb, Yzz, tyW, wayR_len, hin, hi1, Int.toNat_natCast, hwg]
      refine CallK_of call22 (places_q (q.1.getD i 0) m hm (H := ⟨[], (0, ⟨wayR m, 0, 1⟩) :: wToks 1 q.1, m + 1⟩) (lk_ring (by omega)) (by show i + 1 < m + 1; omega)) ?_
      rintro r h' ⟨rfl, rfl⟩
      have hks := plL_len m (q.1.getD i 0)
      have hkl : ∀ k ∈ plL m (q.1.getD i 0), k < m := fun k h => plL_lt h
      have hrg : rg m q i = (plL m (q.1.getD i 0)).foldl (jn i) q := rfl
      rw [hrg] at hnext
      generalize plL m (q.1.getD i 0) = ks at hks hkl hnext ⊢
      simp only [Xaa, Xab, Xac, Xad, Xae, Xaf, Xag, Xah, Xai, Xaj, Xak, Xal, Xam, Xan, Xao, Xap, Xaq, Xar, Xas, Xat, Xau, Xav, Xaw, Xax, Xay, Xaz, Xba, Xbb, awl, Xbc, Xbd, Xbe, Xbf, Xbg, Xbh, Xbi, Xbj, Xbk, Xbl, Xbm, Xbn, Xbo, Xbp, Xbq, ne_eq, srcRows, awo, aggEq, eqF, litEq, andO, qwl, qwo, qOp, Xbr, Xbs, Xbt, lop, Yaa, Yab, Xbu, Xbv, Xbw, oneK, Xbx, Xby, Xbz, Xca, Xcb, Xcc, Xcd, Xce, Xcf, Xcg, Xch, stepOp, Xci, Xcj, Xck, pairO, pureOp, heapOp, entry, slotsOf, ev, evL, evP, evO, lk, up, St.put, St.drop, constAV, cellAV, cellsAV, plain, binV, intBin, strBin, guardBit, boolOf, fnOf, intOfAV, bound, resOf, retV, moved, rowOf, valAt, Kd.agg, AV.cells, splice, places, fillAV, rowsFill, Hp.none, Yac, Yad, Yae, Yaf, ↓reduceIte, reduceCtorEq, Nat.reduceLT, Nat.reduceEqDiff, Nat.reduceAdd, Nat.reduceLeDiff, Nat.reducePow, Nat.reduceMul, Yay, Yaz, Yag, Yah, Yai, Yaj, Yak, Yal, Yam, Yan, Yao, Yap, Yaq, Yar, Yas, Yat, Yau, Yav, Yaw, Yax, Ybc, Ybd, Yba, Ybb, Yzz, tyW, List.length_map]
      refine aw_for ks.length (m + 1) (fun j (p : List Int × Bool) => ⟨[(0, .own 0 m), (2, .vec [] true), (3, .lit (.bool p.2)), (5, .own (i + 1) 1), (10, .own 0 m), (11, .lit (.int .i64 m)), (12, .lit (.int .i64 i)), (19, .vec (ks.map encI) false), (20, .lit (.int .i64 ks.length)), (21, .lit (.int .i64 j))], ringH m p.1, 53⟩)
        (fun j p => p = (ks.take j).foldl (jn i) q) (fun _ _ => rfl) q (St.wk_slots (by simp [lk])) rfl ?_ ?_
      · rintro j p hj hp
        obtain ⟨k, hk⟩ : ∃ k, ks[j]? = some k := ⟨_, List.getElem?_eq_getElem hj⟩
        have hkm := hkl k (List.mem_of_getElem? hk)
        have g1 := map_getD encI hk
        have hj1 : (j : Int) < (ks.length : Int) := by omega
        have hjn : (0 : Int) ≤ (j : Int) := Int.natCast_nonneg j
        have hk1 : (k : Int) < (m : Int) := by omega
        have hkn : (0 : Int) ≤ (k : Int) := Int.natCast_nonneg k
        have hpl : p.1.length = m := by rw [hp, foldl_jn_len]; exact hql
        have hpn : jn i p k = (ks.take (j + 1)).foldl (jn i) q := by rw [List.take_add_one, hk, List.foldl_append, ← hp]; rfl
        have hwk := wayR_get hkm
        simp only [Xaa, Xab, Xac, Xad, Xae, Xaf, Xag, Xah, Xai, Xaj, Xak, Xal, Xam, Xan, Xao, Xap, Xaq, Xar, Xas, Xat, Xau, Xav, Xaw, Xax, Xay, Xaz, Xba, Xbb, awl, Xbc, Xbd, Xbe, Xbf, Xbg, Xbh, Xbi, Xbj, Xbk, Xbl, Xbm, Xbn, Xbo, Xbp, Xbq, ne_eq, srcRows, awo, aggEq, eqF, litEq, andO, qwl, qwo, qOp, Xbr, Xbs, Xbt, lop, Yaa, Yab, Xbu, Xbv, Xbw, oneK, Xbx, Xby, Xbz, Xca, Xcb, Xcc, Xcd, Xce, Xcf, Xcg, Xch, stepOp, Xci, Xcj, Xck, pairO, pureOp, heapOp, entry, slotsOf, ev, evL, evP, evO, lk, up, St.put, St.drop, constAV, cellAV, cellsAV, plain, binV, intBin, strBin, guardBit, boolOf, fnOf, intOfAV, bound, resOf, retV, moved, rowOf, valAt, Kd.agg, AV.cells, splice, places, fillAV, rowsFill, Hp.none, Yac, Yad, Yae, Yaf, ↓reduceIte, reduceCtorEq, Nat.reduceLT, Nat.reduceEqDiff, Nat.reduceAdd, Nat.reduceLeDiff, Nat.reducePow, Nat.reduceMul, Yay, Yaz, Yag, Yah, Yai, Yaj, Yak, Yal, Yam, Yan, Yao, Yap, Yaq, Yar, Yas, Yat, Yau, Yav, Yaw, Yax, Ybc, Ybd, Yba, Ybb, Yzz, tyW, ringH]
        refine .intro (fun hb => ?_) (fun hb => ?_)
        case' refine_2 => exfalso; exact of_decide_eq_false hb hj1
        clear hb
        rw [Xaa, Xam, Xad]
        simp only [Xaa, Xab, Xac, Xad, Xae, Xaf, Xag, Xah, Xai, Xaj, Xak, Xal, Xam, Xan, Xao, Xap, Xaq, Xar, Xas, Xat, Xau, Xav, Xaw, Xax, Xay, Xaz, Xba, Xbb, awl, Xbc, Xbd, Xbe, Xbf, Xbg, Xbh, Xbi, Xbj, Xbk, Xbl, Xbm, Xbn, Xbo, Xbp, Xbq, ne_eq, srcRows, awo, aggEq, eqF, litEq, andO, qwl, qwo, qOp, Xbr, Xbs, Xbt, lop, Yaa, Yab, Xbu, Xbv, Xbw, oneK, Xbx, Xby, Xbz, Xca, Xcb, Xcc, Xcd, Xce, Xcf, Xcg, Xch, stepOp, Xci, Xcj, Xck, pairO, pureOp, heapOp, entry, slotsOf, ev, evL, evP, evO, lk, up, St.put, St.drop, constAV, cellAV, cellsAV, plain, binV, intBin, strBin, guardBit, boolOf, fnOf, intOfAV, bound, resOf, retV, moved, rowOf, valAt, Kd.agg, AV.cells, splice, places, fillAV, rowsFill, Hp.none, Yac, Yad, Yae, Yaf, ↓reduceIte, reduceCtorEq, Nat.reduceLT, Nat.reduceEqDiff, Nat.reduceAdd, Nat.reduceLeDiff, Nat.reducePow, Nat.reduceMul, Yay, Yaz, Yag, Yah, Yai, Yaj, Yak, Yal, Yam, Yan, Yao, Yap, Yaq, Yar, Yas, Yat, Yau, Yav, Yaw, Yax, Ybc, Ybd, Yba, Ybb, Yzz, tyW, wayR_len, List.length_map, hjn, hj1, hkn, hk1, Int.toNat_natCast, g1, encI, hwk]
        refine CallK_of call36 (join_at (a := p.1.getD i 0) (b := p.1.getD k 0) (lk_ring (by omega)) (lk_ring (by omega)) (by show i + 1 < m + 1; omega) (by show k + 1 < m + 1; omega)) ?_
        rintro r h' ⟨rfl, rfl⟩
        rw [up_ring]
        cases hor : (orW (p.1.getD i 0) (p.1.getD k 0) != p.1.getD i 0)
        all_goals
          simp (disch := omega) only [Xaa, Xab, Xac, Xad, Xae, Xaf, Xag, Xah, Xai, Xaj, Xak, Xal, Xam, Xan, Xao, Xap, Xaq, Xar, Xas, Xat, Xau, Xav, Xaw, Xax, Xay, Xaz, Xba, Xbb, awl, Xbc, Xbd, Xbe, Xbf, Xbg, Xbh, Xbi, Xbj, Xbk, Xbl, Xbm, Xbn, Xbo, Xbp, Xbq, ne_eq, srcRows, awo, aggEq, eqF, litEq, andO, qwl, qwo, qOp, Xbr, Xbs, Xbt, lop, Yaa, Yab, Xbu, Xbv, Xbw, oneK, Xbx, Xby, Xbz, Xca, Xcb, Xcc, Xcd, Xce, Xcf, Xcg, Xch, stepOp, Xci, Xcj, Xck, pairO, pureOp, heapOp, entry, slotsOf, ev, evL, evP, evO, lk, up, St.put, St.drop, constAV, cellAV, cellsAV, plain, binV, intBin, strBin, guardBit, boolOf, fnOf, intOfAV, bound, resOf, retV, moved, rowOf, valAt, Kd.agg, AV.cells, splice, places, fillAV, rowsFill, Hp.none, Yac, Yad, Yae, Yaf, ↓reduceIte, reduceCtorEq, Nat.reduceLT, Nat.reduceEqDiff, Nat.reduceAdd, Nat.reduceLeDiff, Nat.reducePow, Nat.reduceMul, Yay, Yaz, Yag, Yah, Yai, Yaj, Yak, Yal, Yam, Yan, Yao, Yap, Yaq, Yar, Yas, Yat, Yau, Yav, Yaw, Yax, Ybc, Ybd, Yba, Ybb, Yzz, tyW, i64w]
          refine ⟨jn i p k, hpn, ?_⟩
          simp only [jn, hor, Bool.false_or, Bool.true_or]
          exact St.wk.cp (St.wk_slots (by simp [lk, encI]))
      · rintro p hp
        rw [List.take_length] at hp
        rw [← hp] at hnext
        have hd : decide (((ks.length : Nat) : Int) < (ks.length : Int)) = false := decide_eq_false (by omega)
        simp (disch := omega) only [Xaa, Xab, Xac, Xad, Xae, Xaf, Xag, Xah, Xai, Xaj, Xak, Xal, Xam, Xan, Xao, Xap, Xaq, Xar, Xas, Xat, Xau, Xav, Xaw, Xax, Xay, Xaz, Xba, Xbb, awl, Xbc, Xbd, Xbe, Xbf, Xbg, Xbh, Xbi, Xbj, Xbk, Xbl, Xbm, Xbn, Xbo, Xbp, Xbq, ne_eq, srcRows, awo, aggEq, eqF, litEq, andO, qwl, qwo, qOp, Xbr, Xbs, Xbt, lop, Yaa, Yab, Xbu, Xbv, Xbw, oneK, Xbx, Xby, Xbz, Xca, Xcb, Xcc, Xcd, Xce, Xcf, Xcg, Xch, stepOp, Xci, Xcj, Xck, pairO, pureOp, heapOp, entry, slotsOf, ev, evL, evP, evO, lk, up, St.put, St.drop, constAV, cellAV, cellsAV, plain, binV, intBin, strBin, guardBit, boolOf, fnOf, intOfAV, bound, resOf, retV, moved, rowOf, valAt, Kd.agg, AV.cells, splice, places, fillAV, rowsFill, Hp.none, Yac, Yad, Yae, Yaf, ↓reduceIte, reduceCtorEq, Nat.reduceLT, Nat.reduceEqDiff, Nat.reduceAdd, Nat.reduceLeDiff, Nat.reducePow, Nat.reduceMul, Yay, Yaz, Yag, Yah, Yai, Yaj, Yak, Yal, Yam, Yan, Yao, Yap, Yaq, Yar, Yas, Yat, Yau, Yav, Yaw, Yax, Ybc, Ybd, Yba, Ybb, Yzz, tyW, ringH, hd, i64w]
        exact ⟨p, hnext, St.wk.cp (St.wk_slots (by simp [lk]))⟩
    · rintro q hq
      have hql : q.1.length = m := by rw [hq, foldl_rg_len]; exact hul
      have hqr : ringP us = q := by rw [hq, ringP, hul]
      have hd : decide (((m : Nat) : Int) < (m : Int)) = false := decide_eq_false (by omega)
      simp only [Xaa, Xab, Xac, Xad, Xae, Xaf, Xag, Xah, Xai, Xaj, Xak, Xal, Xam, Xan, Xao, Xap, Xaq, Xar, Xas, Xat, Xau, Xav, Xaw, Xax, Xay, Xaz, Xba, Xbb, awl, Xbc, Xbd, Xbe, Xbf, Xbg, Xbh, Xbi, Xbj, Xbk, Xbl, Xbm, Xbn, Xbo, Xbp, Xbq, ne_eq, srcRows, awo, aggEq, eqF, litEq, andO, qwl, qwo, qOp, Xbr, Xbs, Xbt, lop, Yaa, Yab, Xbu, Xbv, Xbw, oneK, Xbx, Xby, Xbz, Xca, Xcb, Xcc, Xcd, Xce, Xcf, Xcg, Xch, stepOp, Xci, Xcj, Xck, pairO, pureOp, heapOp, entry, slotsOf, ev, evL, evP, evO, lk, up, St.put, St.drop, constAV, cellAV, cellsAV, plain, binV, intBin, strBin, guardBit, boolOf, fnOf, intOfAV, bound, resOf, retV, moved, rowOf, valAt, Kd.agg, AV.cells, splice, places, fillAV, rowsFill, Hp.none, Yac, Yad, Yae, Yaf, ↓reduceIte, reduceCtorEq, Nat.reduceLT, Nat.reduceEqDiff, Nat.reduceAdd, Nat.reduceLeDiff, Nat.reducePow, Nat.reduceMul, Yay, Yaz, Yag, Yah, Yai, Yaj, Yak, Yal, Yam, Yan, Yao, Yap, Yaq, Yar, Yas, Yat, Yau, Yav, Yaw, Yax, Ybc, Ybd, Yba, Ybb, Yzz, tyW, ringH, hd]
      obtain ⟨n', rfl⟩ : ∃ n', n = n' + 1 := by
        cases n with
        | zero => cases huf
        | succ n' => exact ⟨n', rfl⟩
      simp only [ringF, hqr] at huf
      cases hq2 : q.2
      case' true =>
        rw [hq2] at huf
        simp only [Xaa, Xab, Xac, Xad, Xae, Xaf, Xag, Xah, Xai, Xaj, Xak, Xal, Xam, Xan, Xao, Xap, Xaq, Xar, Xas, Xat, Xau, Xav, Xaw, Xax, Xay, Xaz, Xba, Xbb, awl, Xbc, Xbd, Xbe, Xbf, Xbg, Xbh, Xbi, Xbj, Xbk, Xbl, Xbm, Xbn, Xbo, Xbp, Xbq, ne_eq, srcRows, awo, aggEq, eqF, litEq, andO, qwl, qwo, qOp, Xbr, Xbs, Xbt, lop, Yaa, Yab, Xbu, Xbv, Xbw, oneK, Xbx, Xby, Xbz, Xca, Xcb, Xcc, Xcd, Xce, Xcf, Xcg, Xch, stepOp, Xci, Xcj, Xck, pairO, pureOp, heapOp, entry, slotsOf, ev, evL, evP, evO, lk, up, St.put, St.drop, constAV, cellAV, cellsAV, plain, binV, intBin, strBin, guardBit, boolOf, fnOf, intOfAV, bound, resOf, retV, moved, rowOf, valAt, Kd.agg, AV.cells, splice, places, fillAV, rowsFill, Hp.none, Yac, Yad, Yae, Yaf, ↓reduceIte, reduceCtorEq, Nat.reduceLT, Nat.reduceEqDiff, Nat.reduceAdd, Nat.reduceLeDiff, Nat.reducePow, Nat.reduceMul, Yay, Yaz, Yag, Yah, Yai, Yaj, Yak, Yal, Yam, Yan, Yao, Yap, Yaq, Yar, Yas, Yat, Yau, Yav, Yaw, Yax, Ybc, Ybd, Yba, Ybb, Yzz, tyW]
        exact ⟨_, St.wk.cp (St.wk_slots (by simp [lk])), n', Nat.lt_succ_self n', q.1, hql, huf, rfl⟩
      rw [hq2] at huf
      have hws : q.1 = ws' := by simpa using huf
      rw [hws] at hql ⊢
      simp only [Xaa, Xab, Xac, Xad, Xae, Xaf, Xag, Xah, Xai, Xaj, Xak, Xal, Xam, Xan, Xao, Xap, Xaq, Xar, Xas, Xat, Xau, Xav, Xaw, Xax, Xay, Xaz, Xba, Xbb, awl, Xbc, Xbd, Xbe, Xbf, Xbg, Xbh, Xbi, Xbj, Xbk, Xbl, Xbm, Xbn, Xbo, Xbp, Xbq, ne_eq, srcRows, awo, aggEq, eqF, litEq, andO, qwl, qwo, qOp, Xbr, Xbs, Xbt, lop, Yaa, Yab, Xbu, Xbv, Xbw, oneK, Xbx, Xby, Xbz, Xca, Xcb, Xcc, Xcd, Xce, Xcf, Xcg, Xch, stepOp, Xci, Xcj, Xck, pairO, pureOp, heapOp, entry, slotsOf, ev, evL, evP, evO, lk, up, St.put, St.drop, constAV, cellAV, cellsAV, plain, binV, intBin, strBin, guardBit, boolOf, fnOf, intOfAV, bound, resOf, retV, moved, rowOf, valAt, Kd.agg, AV.cells, splice, places, fillAV, rowsFill, Hp.none, Yac, Yad, Yae, Yaf, ↓reduceIte, reduceCtorEq, Nat.reduceLT, Nat.reduceEqDiff, Nat.reduceAdd, Nat.reduceLeDiff, Nat.reducePow, Nat.reduceMul, Yay, Yaz, Yag, Yah, Yai, Yaj, Yak, Yal, Yam, Yan, Yao, Yap, Yaq, Yar, Yas, Yat, Yau, Yav, Yaw, Yax, Ybc, Ybd, Yba, Ybb, Yzz, tyW]
      have hsz : ∀ i : Nat, (((List.range i).filter fun i : Nat => getW (ws'.getD i 0) i).map encI).length ≤ i := fun i => by simp; exact Nat.le_trans (List.length_filter_le _ _) (by simp)
      have hsucc := flt_succ (fun i : Nat => getW (ws'.getD i 0) i)
      refine aw_forE m (m + 1) (fun i (xs : List (List AV)) => ⟨[(0, .own 0 m), (2, grA (m + 1) xs), (37, .own 0 m), (38, .lit (.int .i64 m)), (39, .lit (.int .i64 i))], ⟨[], (0, ⟨wayR m, 0, 1⟩) :: (wToks 1 ws' ++ grT (m + 1) 1 xs), grN (m + 1) xs⟩, 53⟩) (fun i xs => xs = ((List.range i).filter fun i : Nat => getW (ws'.getD i 0) i).map encI) (Nat.le_refl (m + 1)) [] (St.wk.cp (St.wk_slots1' (by simp [lk, grA]) (fun t => by simp [grT]))) rfl ?_ ?_
      · rintro i xs hi hxs
        have hi1 : (i : Int) < (m : Int) := by omega
        have hin : (0 : Int) ≤ (i : Int) := Int.natCast_nonneg i
        have hs := hsz i
        have hc := hsucc i
        rw [← hxs] at hs hc
        have hwg := wayR_get hi
        have hlk : lk ((0, (⟨wayR m, 0, 1⟩ : Tk)) :: (wToks 1 ws' ++ grT (m + 1) 1 xs)) (i + 1) = some (wT (ws'.getD i 0)) := by
          have h1 := lk_ring (us := ws') (i := i) (k := ⟨wayR m, 0, 1⟩) (by omega)
          rw [lk, if_neg (by omega)] at h1 ⊢
          rw [lk_app, h1]; rfl
        simp only [Xaa, Xab, Xac, Xad, Xae, Xaf, Xag, Xah, Xai, Xaj, Xak, Xal, Xam, Xan, Xao, Xap, Xaq, Xar, Xas, Xat, Xau, Xav, Xaw, Xax, Xay, Xaz, Xba, Xbb, awl, Xbc, Xbd, Xbe, Xbf, Xbg, Xbh, Xbi, Xbj, Xbk, Xbl, Xbm, Xbn, Xbo, Xbp, Xbq, ne_eq, srcRows, awo, aggEq, eqF, litEq, andO, qwl, qwo, qOp, Xbr, Xbs, Xbt, lop, Yaa, Yab, Xbu, Xbv, Xbw, oneK, Xbx, Xby, Xbz, Xca, Xcb, Xcc, Xcd, Xce, Xcf, Xcg, Xch, stepOp, Xci, Xcj, Xck, pairO, pureOp, heapOp, entry, slotsOf, ev, evL, evP, evO, lk, up, St.put, St.drop, constAV, cellAV, cellsAV, plain, binV, intBin, strBin, guardBit, boolOf, fnOf, intOfAV, bound, resOf, retV, moved, rowOf, valAt, Kd.agg, AV.cells, splice, places, fillAV, rowsFill, Hp.none, Yac, Yad, Yae, Yaf, ↓reduceIte, reduceCtorEq, Nat.reduceLT, Nat.reduceEqDiff, Nat.reduceAdd, Nat.reduceLeDiff, Nat.reducePow, Nat.reduceMul, Yay, Yaz, Yag, Yah, Yai, Yaj, Yak, Yal, Yam, Yan, Yao, Yap, Yaq, Yar, Yas, Yat, Yau, Yav, Yaw, Yax, Ybc, Ybd, Yba, Ybb, Yzz, tyW]
        refine .intro (fun hb => ?_) (fun hb => ?_)
        case' refine_2 => exfalso; exact of_decide_eq_false hb hi1
        clear hb
        rw [Xaa, Xam, Xad]
        simp only [Xaa, Xab, Xac, Xad, Xae, Xaf, Xag, Xah, Xai, Xaj, Xak, Xal, Xam, Xan, Xao, Xap, Xaq, Xar, Xas, Xat, Xau, Xav, Xaw, Xax, Xay, Xaz, Xba, Xbb, awl, Xbc, Xbd, Xbe, Xbf, Xbg, Xbh, Xbi, Xbj, Xbk, Xbl, Xbm, Xbn, Xbo, Xbp, Xbq, ne_eq, srcRows, awo, aggEq, eqF, litEq, andO, qwl, qwo, qOp, Xbr, Xbs, Xbt, lop, Yaa, Yab, Xbu, Xbv, Xbw, oneK, Xbx, Xby, Xbz, Xca, Xcb, Xcc, Xcd, Xce, Xcf, Xcg, Xch, stepOp, Xci, Xcj, Xck, pairO, pureOp, heapOp, entry, slotsOf, ev, evL, evP, evO, lk, up, St.put, St.drop, constAV, cellAV, cellsAV, plain, binV, intBin, strBin, guardBit, boolOf, fnOf, intOfAV, bound, resOf, retV, moved, rowOf, valAt, Kd.agg, AV.cells, splice, places, fillAV, rowsFill, Hp.none, Yac, Yad, Yae, Yaf, ↓reduceIte, reduceCtorEq, Nat.reduceLT, Nat.reduceEqDiff, Nat.reduceAdd, Nat.reduceLeDiff, Nat.reducePow, Nat.reduceMul, Yay, Yaz, Yag, Yah, Yai, Yaj, Yak, Yal, Yam, Yan, Yao, Yap, Yaq, Yar, Yas, Yat, Yau, Yav, Yaw, Yax, Ybc, Ybd, Yba, Ybb, Yzz, tyW, wayR_len, hin, hi1, Int.toNat_natCast, hwg]
        refine CallK_of call37 (get_at (ws'.getD i 0) i (by omega) (by omega) hlk (by cases xs <;> simp [grN] <;> omega) rfl) ?_
        rintro r h' ⟨rfl, rfl⟩
        cases hg : getW (ws'.getD i 0) i
        · rw [hg] at hc
          simp (disch := omega) only [Xaa, Xab, Xac, Xad, Xae, Xaf, Xag, Xah, Xai, Xaj, Xak, Xal, Xam, Xan, Xao, Xap, Xaq, Xar, Xas, Xat, Xau, Xav, Xaw, Xax, Xay, Xaz, Xba, Xbb, awl, Xbc, Xbd, Xbe, Xbf, Xbg, Xbh, Xbi, Xbj, Xbk, Xbl, Xbm, Xbn, Xbo, Xbp, Xbq, ne_eq, srcRows, awo, aggEq, eqF, litEq, andO, qwl, qwo, qOp, Xbr, Xbs, Xbt, lop, Yaa, Yab, Xbu, Xbv, Xbw, oneK, Xbx, Xby, Xbz, Xca, Xcb, Xcc, Xcd, Xce, Xcf, Xcg, Xch, stepOp, Xci, Xcj, Xck, pairO, pureOp, heapOp, entry, slotsOf, ev, evL, evP, evO, lk, up, St.put, St.drop, constAV, cellAV, cellsAV, plain, binV, intBin, strBin, guardBit, boolOf, fnOf, intOfAV, bound, resOf, retV, moved, rowOf, valAt, Kd.agg, AV.cells, splice, places, fillAV, rowsFill, Hp.none, Yac, Yad, Yae, Yaf, ↓reduceIte, reduceCtorEq, Nat.reduceLT, Nat.reduceEqDiff, Nat.reduceAdd, Nat.reduceLeDiff, Nat.reducePow, Nat.reduceMul, Yay, Yaz, Yag, Yah, Yai, Yaj, Yak, Yal, Yam, Yan, Yao, Yap, Yaq, Yar, Yas, Yat, Yau, Yav, Yaw, Yax, Ybc, Ybd, Yba, Ybb, Yzz, tyW, i64w]
          exact ⟨xs, hc.symm, St.wk.cp (St.wk_slots (by simp [lk]))⟩
        · rw [hg] at hc
          have hnil : ∀ q ∈ ([] : List (List AV)), q.length = 1 := alln
          have hone : ∀ q ∈ [[AV.lit (.int .i64 i)]], q.length = 1 := allc rfl alln
          have hno : lk (wToks 1 ws') (m + 1) = none := by
            have := lk_wToks ws' 1 m
            rw [Nat.add_comm 1 m] at this
            rw [this, List.getElem?_eq_none (by omega)]; rfl
          cases xs with
          | nil =>
            have hfit : fits 1 8 := fits_of' (by decide) (by decide)
            simp (disch := omega) only [Xaa, Xab, Xac, Xad, Xae, Xaf, Xag, Xah, Xai, Xaj, Xak, Xal, Xam, Xan, Xao, Xap, Xaq, Xar, Xas, Xat, Xau, Xav, Xaw, Xax, Xay, Xaz, Xba, Xbb, awl, Xbc, Xbd, Xbe, Xbf, Xbg, Xbh, Xbi, Xbj, Xbk, Xbl, Xbm, Xbn, Xbo, Xbp, Xbq, ne_eq, srcRows, awo, aggEq, eqF, litEq, andO, qwl, qwo, qOp, Xbr, Xbs, Xbt, lop, Yaa, Yab, Xbu, Xbv, Xbw, oneK, Xbx, Xby, Xbz, Xca, Xcb, Xcc, Xcd, Xce, Xcf, Xcg, Xch, stepOp, Xci, Xcj, Xck, pairO, pureOp, heapOp, entry, slotsOf, ev, evL, evP, evO, lk, up, St.put, St.drop, constAV, cellAV, cellsAV, plain, binV, intBin, strBin, guardBit, boolOf, fnOf, intOfAV, bound, resOf, retV, moved, rowOf, valAt, Kd.agg, AV.cells, splice, places, fillAV, rowsFill, Hp.none, Yac, Yad, Yae, Yaf, ↓reduceIte, reduceCtorEq, Nat.reduceLT, Nat.reduceEqDiff, Nat.reduceAdd, Nat.reduceLeDiff, Nat.reducePow, Nat.reduceMul, Yay, Yaz, Yag, Yah, Yai, Yaj, Yak, Yal, Yam, Yan, Yao, Yap, Yaq, Yar, Yas, Yat, Yau, Yav, Yaw, Yax, Ybc, Ybd, Yba, Ybb, Yzz, tyW, i64w, grA_nil, grA_cons, grT_nil, grT_cons, grN, hfit, eq_true hnil, eq_true hone]
            exact ⟨[encI i], hc.symm, St.wk.cp (St.wk_slots (by simp [lk, grA, encI]))⟩
          | cons x l =>
            have hfit : fits (l.length + 1 + 1) 8 := fits_of' (by simp at hs; omega) (by simp at hs; omega)
            have hlk2 : lk (wToks 1 ws' ++ [(m + 1, ⟨x :: l, 0, 1⟩)]) (m + 1) = some ⟨x :: l, 0, 1⟩ := by
              rw [lk_app, hno]; simp [lk]
            have hup2 := fun k' : Tk => up_app (wToks 1 ws') (i := m + 1) (k := ⟨x :: l, 0, 1⟩) (k' := k') hno
            simp (disch := omega) only [Xaa, Xab, Xac, Xad, Xae, Xaf, Xag, Xah, Xai, Xaj, Xak, Xal, Xam, Xan, Xao, Xap, Xaq, Xar, Xas, Xat, Xau, Xav, Xaw, Xax, Xay, Xaz, Xba, Xbb, awl, Xbc, Xbd, Xbe, Xbf, Xbg, Xbh, Xbi, Xbj, Xbk, Xbl, Xbm, Xbn, Xbo, Xbp, Xbq, ne_eq, srcRows, awo, aggEq, eqF, litEq, andO, qwl, qwo, qOp, Xbr, Xbs, Xbt, lop, Yaa, Yab, Xbu, Xbv, Xbw, oneK, Xbx, Xby, Xbz, Xca, Xcb, Xcc, Xcd, Xce, Xcf, Xcg, Xch, stepOp, Xci, Xcj, Xck, pairO, pureOp, heapOp, entry, slotsOf, ev, evL, evP, evO, lk, up, St.put, St.drop, constAV, cellAV, cellsAV, plain, binV, intBin, strBin, guardBit, boolOf, fnOf, intOfAV, bound, resOf, retV, moved, rowOf, valAt, Kd.agg, AV.cells, splice, places, fillAV, rowsFill, Hp.none, Yac, Yad, Yae, Yaf, ↓reduceIte, reduceCtorEq, Nat.reduceLT, Nat.reduceEqDiff, Nat.reduceAdd, Nat.reduceLeDiff, Nat.reducePow, Nat.reduceMul, Yay, Yaz, Yag, Yah, Yai, Yaj, Yak, Yal, Yam, Yan, Yao, Yap, Yaq, Yar, Yas, Yat, Yau, Yav, Yaw, Yax, Ybc, Ybd, Yba, Ybb, Yzz, tyW, i64w, grA_nil, grA_cons, grT_nil, grT_cons, grN, hfit, eq_true hnil, eq_true hone, hlk2, hup2]
            exact ⟨x :: l ++ [encI i], hc.symm, St.wk.cp (St.wk_slots (by simp [lk, grA]))⟩
      · rintro xs hxs
        have hd : decide (((m : Nat) : Int) < (m : Int)) = false := decide_eq_false (by omega)
        simp only [Xaa, Xab, Xac, Xad, Xae, Xaf, Xag, Xah, Xai, Xaj, Xak, Xal, Xam, Xan, Xao, Xap, Xaq, Xar, Xas, Xat, Xau, Xav, Xaw, Xax, Xay, Xaz, Xba, Xbb, awl, Xbc, Xbd, Xbe, Xbf, Xbg, Xbh, Xbi, Xbj, Xbk, Xbl, Xbm, Xbn, Xbo, Xbp, Xbq, ne_eq, srcRows, awo, aggEq, eqF, litEq, andO, qwl, qwo, qOp, Xbr, Xbs, Xbt, lop, Yaa, Yab, Xbu, Xbv, Xbw, oneK, Xbx, Xby, Xbz, Xca, Xcb, Xcc, Xcd, Xce, Xcf, Xcg, Xch, stepOp, Xci, Xcj, Xck, pairO, pureOp, heapOp, entry, slotsOf, ev, evL, evP, evO, lk, up, St.put, St.drop, constAV, cellAV, cellsAV, plain, binV, intBin, strBin, guardBit, boolOf, fnOf, intOfAV, bound, resOf, retV, moved, rowOf, valAt, Kd.agg, AV.cells, splice, places, fillAV, rowsFill, Hp.none, Yac, Yad, Yae, Yaf, ↓reduceIte, reduceCtorEq, Nat.reduceLT, Nat.reduceEqDiff, Nat.reduceAdd, Nat.reduceLeDiff, Nat.reducePow, Nat.reduceMul, Yay, Yaz, Yag, Yah, Yai, Yaj, Yak, Yal, Yam, Yan, Yao, Yap, Yaq, Yar, Yas, Yat, Yau, Yav, Yaw, Yax, Ybc, Ybd, Yba, Ybb, Yzz, tyW, hd]
        refine ⟨_, St.wk.cp (St.wk.refl _), ?_⟩
        simp only [Xaa, Xab, Xac, Xad, Xae, Xaf, Xag, Xah, Xai, Xaj, Xak, Xal, Xam, Xan, Xao, Xap, Xaq, Xar, Xas, Xat, Xau, Xav, Xaw, Xax, Xay, Xaz, Xba, Xbb, awl, Xbc, Xbd, Xbe, Xbf, Xbg, Xbh, Xbi, Xbj, Xbk, Xbl, Xbm, Xbn, Xbo, Xbp, Xbq, ne_eq, srcRows, awo, aggEq, eqF, litEq, andO, qwl, qwo, qOp, Xbr, Xbs, Xbt, lop, Yaa, Yab, Xbu, Xbv, Xbw, oneK, Xbx, Xby, Xbz, Xca, Xcb, Xcc, Xcd, Xce, Xcf, Xcg, Xch, stepOp, Xci, Xcj, Xck, pairO, pureOp, heapOp, entry, slotsOf, ev, evL, evP, evO, lk, up, St.put, St.drop, constAV, cellAV, cellsAV, plain, binV, intBin, strBin, guardBit, boolOf, fnOf, intOfAV, bound, resOf, retV, moved, rowOf, valAt, Kd.agg, AV.cells, splice, places, fillAV, rowsFill, Hp.none, Yac, Yad, Yae, Yaf, ↓reduceIte, reduceCtorEq, Nat.reduceLT, Nat.reduceEqDiff, Nat.reduceAdd, Nat.reduceLeDiff, Nat.reducePow, Nat.reduceMul, Yay, Yaz, Yag, Yah, Yai, Yaj, Yak, Yal, Yam, Yan, Yao, Yap, Yaq, Yar, Yas, Yat, Yau, Yav, Yaw, Yax, Ybc, Ybd, Yba, Ybb, Yzz, tyW]
        have : xs = (rgR ws').map encI := by rw [hxs, rgR, hql]
        rw [this]
        exact ⟨rfl, rfl⟩
end Go.Proofs.Ytogdlomemaoajaa
