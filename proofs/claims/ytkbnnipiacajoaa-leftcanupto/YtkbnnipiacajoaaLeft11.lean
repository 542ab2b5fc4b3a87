/- A rule turned: its prims and steps; the contract of the program's answer. Conditions: those that each theorem names. -/
import Derived.Test.YtkbnnipiacajoaaLeft10
namespace Go.Proofs.Ytkbnnipiacajoaa
open Go.Ab
set_option linter.unusedSimpArgs false
set_option linter.unusedVariables false
set_option maxRecDepth 20000

/-- What becomes of an alternative: a step or not, and the branch. -/
def turn (r : Rl) (i : Nat) (a : Al) : Bool × Br :=
  if isR r then
    if begN r.name a.e then (true, ⟨(i : Int) + 1, lvl r.alts.length ((i : Int) + 1), restE (lastE r.name (if a.right then lvl r.alts.length ((i : Int) + 1) else lvl r.alts.length ((i : Int) + 1) + 1) (cpE a.e))⟩)
    else (false, ⟨(i : Int) + 1, lvl r.alts.length ((i : Int) + 1), lastE r.name (lvl r.alts.length ((i : Int) + 1)) (cpE a.e)⟩)
  else (false, ⟨(i : Int) + 1, 0, cpE a.e⟩)
def turns (r : Rl) : List (Bool × Br) := r.alts.mapIdx (turn r)
def brs (r : Rl) (st : Bool) (i : Nat) : List Br := (((turns r).take i).filter fun x => x.1 == st).map (·.2)
def rws (r : Rl) (st : Bool) (i : Nat) : List (List AV) := (brs r st i).map encB
theorem turns_get {r : Rl} {i : Nat} {a : Al} (h : r.alts[i]? = some a) : (turns r)[i]? = some (turn r i a) := by
  simp [turns, List.getElem?_mapIdx, h]
theorem rws_succ {r : Rl} {i : Nat} {a : Al} (h : r.alts[i]? = some a) (st : Bool) : rws r st (i + 1) = if (turn r i a).1 == st then rws r st i ++ [encB (turn r i a).2] else rws r st i := by
  simp only [rws, brs, List.take_add_one, turns_get h, Option.toList_some, List.filter_append, List.map_append]
  cases h1 : ((turn r i a).1 == st) <;> simp [h1]
theorem rws_length (r : Rl) (st : Bool) (i : Nat) : (rws r st i).length ≤ i := by
  simp only [rws, brs, List.length_map]
  exact Nat.le_trans (List.length_filter_le _ _) (by simp; omega)
theorem pure_rws (r : Rl) (st : Bool) (i : Nat) : ∀ x ∈ rws r st i, ∀ c ∈ x, Ab.Pure c := pure_rows pure_encB _

theorem encA_e (a : Al) : (encA a).take 11 = encE a.e := by rw [encA_eq, List.take_append_of_le_length (Nat.le_of_eq (encE_length a.e).symm), encE_take]
theorem encA_r (a : Al) : (encA a)[11]? = some (.lit (.bool a.right)) := by rw [encA_eq, List.getElem?_append_right (Nat.le_of_eq (encE_length a.e)), encE_length]; rfl

theorem encRl_alts (r : Rl) : (encRl r)[3]? = some (.vec (r.alts.map encA) false) := rfl
mutual
theorem esz_cp : ∀ e : El, esz (cpE e) = esz e
  | .mk op name set lz g kids level place => by simp only [cpE, esz]; rw [eszs_cp kids]
theorem eszs_cp : ∀ l : List El, eszs (cpEs l) = eszs l
  | [] => rfl
  | e :: l => by simp only [cpEs, eszs]; rw [esz_cp e, eszs_cp l]
end
theorem grA_nil {t : Nat} : grA t [] = .vec [] true := rfl
theorem grA_cons {t : Nat} {x : List AV} {l : List (List AV)} : grA t (x :: l) = .own t (l.length + 1) := rfl
theorem grT_nil {t s : Nat} : grT t s [] = [] := rfl
theorem grT_cons {t s : Nat} {x : List AV} {l : List (List AV)} : grT t s (x :: l) = [(t, ⟨x :: l, 0, s⟩)] := rfl
theorem mem_grT {t s : Nat} {rows : List (List AV)} {p : Nat × Tk} (h : p ∈ grT t s rows) : p = (t, ⟨rows, 0, s⟩) ∧ rows ≠ [] := by
  cases rows with
  | nil => cases h
  | cons x l => simp only [grT, List.mem_singleton] at h; exact ⟨h, by simp⟩
/-- Two slices that grow, of whatever names, are the slices N and N + 1. -/
theorem cp_two {σ : St} {sl : List (Nat × AV)} {bx : List (Nat × List AV)} {P' Q' : List (List AV)} {n : Nat} (N o a b : Nat) (ho : o < N) (ha : N ≤ a ∧ a < σ.hp.nx) (hb : N ≤ b ∧ b < σ.hp.nx) (hab : a ≠ b) (hn : n = σ.nt)
    (hs : ∀ p ∈ sl, ∃ v, lk σ.slots p.1 = some v ∧ Rn (cpn N [a, b]) (N + 2) p.2 v)
    (hbx : ∀ p ∈ bx, p.1 < N ∧ lk σ.hp.boxes p.1 = some p.2 ∧ ∀ c ∈ p.2, Ab.Pure c)
    (ho' : lk σ.hp.boxes o = some [grA a P', grA b Q'])
    (hP : P' ≠ [] → lk σ.hp.toks a = some ⟨P', 0, 13⟩) (hQ : Q' ≠ [] → lk σ.hp.toks b = some ⟨Q', 0, 13⟩)
    (pP : ∀ x ∈ P', ∀ c ∈ x, Ab.Pure c) (pQ : ∀ x ∈ Q', ∀ c ∈ x, Ab.Pure c) :
    St.cp N σ ⟨sl, ⟨bx ++ [(o, [grA N P', grA (N + 1) Q'])], grT N 13 P' ++ grT (N + 1) 13 Q', N + 2⟩, n⟩ := by
  have c0 : ∀ i, i < N → cpn N [a, b] i = i := fun i h => by simp [cpn, h]
  have c1 : cpn N [a, b] N = a := by simp [cpn]
  have c2 : cpn N [a, b] (N + 1) = b := by
    have : ¬ N + 1 < N := by omega
    simp [cpn, this]
  refine St.cp_of N [a, b] (by omega) rfl hn (by simp [hab]) (by simp; exact ⟨ha, hb⟩) hs ?_ ?_
  · intro p hp
    rcases List.mem_append.1 hp with hp | hp
    · obtain ⟨h1, h2, h3⟩ := hbx p hp
      exact ⟨by show p.1 < N + 2; omega, p.2, by rw [c0 _ h1]; exact h2, .pure h3⟩
    · have hp : p = (o, [grA N P', grA (N + 1) Q']) := by simpa using hp
      subst hp
      refine ⟨by show o < N + 2; omega, _, by rw [c0 _ ho]; exact ho', .cons (rn_gr fun _ => ⟨by show N < N + 2; omega, c1⟩) (.cons (rn_gr fun _ => ⟨by show N + 1 < N + 2; omega, c2⟩) .nil)⟩
  · intro p hp
    rcases List.mem_append.1 hp with hp | hp
    · obtain ⟨rfl, h⟩ := mem_grT hp
      exact ⟨by show N < N + 2; omega, _, by rw [c1]; exact hP h, rfl, rfl, .pure pP⟩
    · obtain ⟨rfl, h⟩ := mem_grT hp
      exact ⟨by show N + 1 < N + 2; omega, _, by rw [c2]; exact hQ h, rfl, rfl, .pure pQ⟩

theorem lvl_bd {n i : Nat} (h : i < n) : lvl n ((i : Int) + 1) = (n : Int) - i := by
  unfold lvl; rw [if_neg (by omega)]; omega

theorem expo_gr2 {h : Hp} {t s : Nat} {rows : List (List AV)} (hp : ∀ x ∈ rows, ∀ c ∈ x, Ab.Pure c) (ht : rows ≠ [] → lk h.toks t = some ⟨rows, 0, s⟩) : Expo h (grA t rows) (.vec rows false) := by
  cases rows with
  | nil => exact expo_full (by simp)
  | cons x l => exact expo_own (ht (by simp)) rfl hp
def ofS (r : Rl) (i : Nat) : St := ⟨[(1, .ptr 0 0), (2, .ptr 1 0), (3, .lit (.string r.name)), (4, .lit (.bool (isR r))), (14, .vec (r.alts.map encA) false), (15, .lit (.int .i64 r.alts.length)), (16, .lit (.int .i64 i))],
  ⟨[(0, encRl r), (1, [grA 2 (rws r false i), grA 3 (rws r true i)])], grT 2 13 (rws r false i) ++ grT 3 13 (rws r true i), 4⟩, 92⟩

theorem spec11 (r : Rl) (hr : rsz r ≤ 1000000000) : PCall Try.prog 11 [.agg (encRl r)] (.agg [.vec (rws r false r.alts.length) false, .vec (rws r true r.alts.length) false]) := by
  have ra : r.alts.length ≤ 1000000000 := by
    have h1 := sum_len asz asz_pos r.alts
    simp only [rsz] at hr; omega
  refine PCall_of_SCall (SCall_introC Try.func11 rfl Try.ntmps11 (rs := [.cell 2 37]) rfl (by simp) (N := 0) rfl ?_)
  simp only [Xaa, Xab, Xac, Xad, Xae, Xaf, Xag, Xah, Xai, Xaj, Xak, Xal, Xam, Xan, Xao, Xap, Xaq, Xar, Xas, Xat, Xau, Xav, Xaw, Xax, Xay, Xaz, Xba, Xbb, awl, Xbc, Xbd, Xbe, Xbf, Xbg, Xbh, Xbi, Xbj, Xbk, Xbl, Xbm, Xbn, Xbo, Xbp, Xbq, ne_eq, srcRows, awo, aggEq, eqF, litEq, andO, qwl, qwo, qOp, Xbr, Xbs, Xbt, lop, Yaa, Yab, Xbu, Xbv, Xbw, oneK, Xbx, Xby, Xbz, Xca, Xcb, Xcc, Xcd, Xce, Xcf, Xcg, Xch, stepOp, Xci, Xcj, Xck, pairO, pureOp, heapOp, entry, slotsOf, ev, evL, evP, evO, lk, up, St.put, St.drop, constAV, cellAV, cellsAV, plain, binV, intBin, strBin, guardBit, boolOf, fnOf, intOfAV, bound, resOf, retV, moved, rowOf, valAt, Kd.agg, AV.cells, splice, places, fillAV, rowsFill, Hp.none, Yac, Yad, Yae, Yaf, ↓reduceIte, reduceCtorEq, Nat.reduceLT, Nat.reduceEqDiff, Nat.reduceAdd, Nat.reduceLeDiff, Nat.reducePow, Nat.reduceMul, Yay, Yaz, Yag, Yah, Yai, Yaj, Yak, Yal, Yam, Yan, Yao, Yap, Yaq, Yar, Yas, Yat, Yau, Yav, Yaw, Yax, Ybc, Ybd, Yba, Ybb, Yzz, tyW, encRl]
  refine aw_scope_straight ?_
  simp only [Xaa, Xab, Xac, Xad, Xae, Xaf, Xag, Xah, Xai, Xaj, Xak, Xal, Xam, Xan, Xao, Xap, Xaq, Xar, Xas, Xat, Xau, Xav, Xaw, Xax, Xay, Xaz, Xba, Xbb, awl, Xbc, Xbd, Xbe, Xbf, Xbg, Xbh, Xbi, Xbj, Xbk, Xbl, Xbm, Xbn, Xbo, Xbp, Xbq, ne_eq, srcRows, awo, aggEq, eqF, litEq, andO, qwl, qwo, qOp, Xbr, Xbs, Xbt, lop, Yaa, Yab, Xbu, Xbv, Xbw, oneK, Xbx, Xby, Xbz, Xca, Xcb, Xcc, Xcd, Xce, Xcf, Xcg, Xch, stepOp, Xci, Xcj, Xck, pairO, pureOp, heapOp, entry, slotsOf, ev, evL, evP, evO, lk, up, St.put, St.drop, constAV, cellAV, cellsAV, plain, binV, intBin, strBin, guardBit, boolOf, fnOf, intOfAV, bound, resOf, retV, moved, rowOf, valAt, Kd.agg, AV.cells, splice, places, fillAV, rowsFill, Hp.none, Yac, Yad, Yae, Yaf, ↓reduceIte, reduceCtorEq, Nat.reduceLT, Nat.reduceEqDiff, Nat.reduceAdd, Nat.reduceLeDiff, Nat.reducePow, Nat.reduceMul, Yay, Yaz, Yag, Yah, Yai, Yaj, Yak, Yal, Yam, Yan, Yao, Yap, Yaq, Yar, Yas, Yat, Yau, Yav, Yaw, Yax, Ybc, Ybd, Yba, Ybb, Yzz, tyW]
  refine CallK_pure call12 (spec12 r hr) (by simp [Pure.lit]; exact pureRl r) (.lit _) ?_
  simp only [Xaa, Xab, Xac, Xad, Xae, Xaf, Xag, Xah, Xai, Xaj, Xak, Xal, Xam, Xan, Xao, Xap, Xaq, Xar, Xas, Xat, Xau, Xav, Xaw, Xax, Xay, Xaz, Xba, Xbb, awl, Xbc, Xbd, Xbe, Xbf, Xbg, Xbh, Xbi, Xbj, Xbk, Xbl, Xbm, Xbn, Xbo, Xbp, Xbq, ne_eq, srcRows, awo, aggEq, eqF, litEq, andO, qwl, qwo, qOp, Xbr, Xbs, Xbt, lop, Yaa, Yab, Xbu, Xbv, Xbw, oneK, Xbx, Xby, Xbz, Xca, Xcb, Xcc, Xcd, Xce, Xcf, Xcg, Xch, stepOp, Xci, Xcj, Xck, pairO, pureOp, heapOp, entry, slotsOf, ev, evL, evP, evO, lk, up, St.put, St.drop, constAV, cellAV, cellsAV, plain, binV, intBin, strBin, guardBit, boolOf, fnOf, intOfAV, bound, resOf, retV, moved, rowOf, valAt, Kd.agg, AV.cells, splice, places, fillAV, rowsFill, Hp.none, Yac, Yad, Yae, Yaf, ↓reduceIte, reduceCtorEq, Nat.reduceLT, Nat.reduceEqDiff, Nat.reduceAdd, Nat.reduceLeDiff, Nat.reducePow, Nat.reduceMul, Yay, Yaz, Yag, Yah, Yai, Yaj, Yak, Yal, Yam, Yan, Yao, Yap, Yaq, Yar, Yas, Yat, Yau, Yav, Yaw, Yax, Ybc, Ybd, Yba, Ybb, Yzz, tyW, List.length_map]
  refine aw_forE r.alts.length 2 (fun i (_ : Unit) => ofS r i) (fun _ _ => True) (Nat.le_refl 2) () ?_ trivial ?_ ?_
  · exact St.wk.cp (St.wk.trans St.wk_skip (St.wk.trans St.wk_skip (St.wk_slots (by simp [lk]))))
  · rintro i _ hi -
    obtain ⟨a, hk⟩ : ∃ a, r.alts[i]? = some a := ⟨_, List.getElem?_eq_getElem hi⟩
    have hm : a ∈ r.alts := List.mem_of_getElem? hk
    have g1 := map_getD encA hk
    have hin : (0 : Int) ≤ (i : Int) := Int.natCast_nonneg i
    have hi1 : (i : Int) < (r.alts.length : Int) := by omega
    have hae : esz a.e ≤ 1000000000 := by
      have h1 := asz_mem hm; simp only [rsz] at hr; simp only [asz] at h1; omega
    have r1 := rws_succ hk false
    have r2 := rws_succ hk true
    have l1 := rws_length r false i
    have l2 := rws_length r true i
    have p1 := pure_rws r false (i + 1)
    have p2 := pure_rws r true (i + 1)
    unfold ofS
    generalize rws r false (i + 1) = P' at r1 p1 ⊢
    generalize rws r true (i + 1) = Q' at r2 p2 ⊢
    generalize rws r false i = P at r1 l1 ⊢
    generalize rws r true i = Q at r2 l2 ⊢
    simp -implicitDefEqProofs only [Xaa, Xab, Xac, Xad, Xae, Xaf, Xag, Xah, Xai, Xaj, Xak, Xal, Xam, Xan, Xao, Xap, Xaq, Xar, Xas, Xat, Xau, Xav, Xaw, Xax, Xay, Xaz, Xba, Xbb, awl, Xbc, Xbd, Xbe, Xbf, Xbg, Xbh, Xbi, Xbj, Xbk, Xbl, Xbm, Xbn, Xbo, Xbp, Xbq, ne_eq, srcRows, awo, aggEq, eqF, litEq, andO, qwl, qwo, qOp, Xbr, Xbs, Xbt, lop, Yaa, Yab, Xbu, Xbv, Xbw, oneK, Xbx, Xby, Xbz, Xca, Xcb, Xcc, Xcd, Xce, Xcf, Xcg, Xch, stepOp, Xci, Xcj, Xck, pairO, pureOp, heapOp, entry, slotsOf, ev, evL, evP, evO, lk, up, St.put, St.drop, constAV, cellAV, cellsAV, plain, binV, intBin, strBin, guardBit, boolOf, fnOf, intOfAV, bound, resOf, retV, moved, rowOf, valAt, Kd.agg, AV.cells, splice, places, fillAV, rowsFill, Hp.none, Yac, Yad, Yae, Yaf, ↓reduceIte, reduceCtorEq, Nat.reduceLT, Nat.reduceEqDiff, Nat.reduceAdd, Nat.reduceLeDiff, Nat.reducePow, Nat.reduceMul, Yay, Yaz, Yag, Yah, Yai, Yaj, Yak, Yal, Yam, Yan, Yao, Yap, Yaq, Yar, Yas, Yat, Yau, Yav, Yaw, Yax, Ybc, Ybd, Yba, Ybb, Yzz, tyW]
    refine .intro (fun hb => ?_) (fun hb => ?_)
    case' refine_2 => exfalso; exact of_decide_eq_false hb hi1
    clear hb
    rw [Xaa, Xam, Xad]
    simp -implicitDefEqProofs only [Xaa, Xab, Xac, Xad, Xae, Xaf, Xag, Xah, Xai, Xaj, Xak, Xal, Xam, Xan, Xao, Xap, Xaq, Xar, Xas, Xat, Xau, Xav, Xaw, Xax, Xay, Xaz, Xba, Xbb, awl, Xbc, Xbd, Xbe, Xbf, Xbg, Xbh, Xbi, Xbj, Xbk, Xbl, Xbm, Xbn, Xbo, Xbp, Xbq, ne_eq, srcRows, awo, aggEq, eqF, litEq, andO, qwl, qwo, qOp, Xbr, Xbs, Xbt, lop, Yaa, Yab, Xbu, Xbv, Xbw, oneK, Xbx, Xby, Xbz, Xca, Xcb, Xcc, Xcd, Xce, Xcf, Xcg, Xch, stepOp, Xci, Xcj, Xck, pairO, pureOp, heapOp, entry, slotsOf, ev, evL, evP, evO, lk, up, St.put, St.drop, constAV, cellAV, cellsAV, plain, binV, intBin, strBin, guardBit, boolOf, fnOf, intOfAV, bound, resOf, retV, moved, rowOf, valAt, Kd.agg, AV.cells, splice, places, fillAV, rowsFill, Hp.none, Yac, Yad, Yae, Yaf, ↓reduceIte, reduceCtorEq, Nat.reduceLT, Nat.reduceEqDiff, Nat.reduceAdd, Nat.reduceLeDiff, Nat.reducePow, Nat.reduceMul, Yay, Yaz, Yag, Yah, Yai, Yaj, Yak, Yal, Yam, Yan, Yao, Yap, Yaq, Yar, Yas, Yat, Yau, Yav, Yaw, Yax, Ybc, Ybd, Yba, Ybb, Yzz, tyW, List.length_map, hin, hi1, Int.toNat_natCast, g1, encA_length, encA_take, encA_e]
    cases hR : isR r
    · refine CallK_pure call31 (ownR_pure (copied_spec a.e hae)) (by simp [Pure.lit]; exact pureE a.e) (pureE (cpE a.e)) ?_
      simp -implicitDefEqProofs (disch := omega) only [Xaa, Xab, Xac, Xad, Xae, Xaf, Xag, Xah, Xai, Xaj, Xak, Xal, Xam, Xan, Xao, Xap, Xaq, Xar, Xas, Xat, Xau, Xav, Xaw, Xax, Xay, Xaz, Xba, Xbb, awl, Xbc, Xbd, Xbe, Xbf, Xbg, Xbh, Xbi, Xbj, Xbk, Xbl, Xbm, Xbn, Xbo, Xbp, Xbq, ne_eq, srcRows, awo, aggEq, eqF, litEq, andO, qwl, qwo, qOp, Xbr, Xbs, Xbt, lop, Yaa, Yab, Xbu, Xbv, Xbw, oneK, Xbx, Xby, Xbz, Xca, Xcb, Xcc, Xcd, Xce, Xcf, Xcg, Xch, stepOp, Xci, Xcj, Xck, pairO, pureOp, heapOp, entry, slotsOf, ev, evL, evP, evO, lk, up, St.put, St.drop, constAV, cellAV, cellsAV, plain, binV, intBin, strBin, guardBit, boolOf, fnOf, intOfAV, bound, resOf, retV, moved, rowOf, valAt, Kd.agg, AV.cells, splice, places, fillAV, rowsFill, Hp.none, Yac, Yad, Yae, Yaf, ↓reduceIte, reduceCtorEq, Nat.reduceLT, Nat.reduceEqDiff, Nat.reduceAdd, Nat.reduceLeDiff, Nat.reducePow, Nat.reduceMul, Yay, Yaz, Yag, Yah, Yai, Yaj, Yak, Yal, Yam, Yan, Yao, Yap, Yaq, Yar, Yas, Yat, Yau, Yav, Yaw, Yax, Ybc, Ybd, Yba, Ybb, Yzz, tyW, i64w, encE_length, encE_take]
      have ht : turn r i a = (false, ⟨(i : Int) + 1, 0, cpE a.e⟩) := by simp [turn, hR]
      rw [ht] at r1 r2
      simp only [beq_self_eq_true, if_true, encB_eq, List.cons_append, List.nil_append] at r1
      have r2 : Q' = Q := r2
      subst r2
      generalize cpE a.e = e1 at r1 ⊢
      have hel := encE_length e1
      have het := encE_take e1
      have hnil : ∀ q ∈ ([] : List (List AV)), q.length = 13 := alln
      have hone : ∀ q ∈ [AV.lit (.int .i64 ((i : Int) + 1)) :: AV.lit (.int .i64 0) :: encE e1], q.length = 13 := by simp [hel]
      cases P with
      | nil =>
        have hfit : fits 1 168 := fits_of' (by decide) (by decide)
        simp -implicitDefEqProofs (disch := omega) only [Xaa, Xab, Xac, Xad, Xae, Xaf, Xag, Xah, Xai, Xaj, Xak, Xal, Xam, Xan, Xao, Xap, Xaq, Xar, Xas, Xat, Xau, Xav, Xaw, Xax, Xay, Xaz, Xba, Xbb, awl, Xbc, Xbd, Xbe, Xbf, Xbg, Xbh, Xbi, Xbj, Xbk, Xbl, Xbm, Xbn, Xbo, Xbp, Xbq, ne_eq, srcRows, awo, aggEq, eqF, litEq, andO, qwl, qwo, qOp, Xbr, Xbs, Xbt, lop, Yaa, Yab, Xbu, Xbv, Xbw, oneK, Xbx, Xby, Xbz, Xca, Xcb, Xcc, Xcd, Xce, Xcf, Xcg, Xch, stepOp, Xci, Xcj, Xck, pairO, pureOp, heapOp, entry, slotsOf, ev, evL, evP, evO, lk, up, St.put, St.drop, constAV, cellAV, cellsAV, plain, binV, intBin, strBin, guardBit, boolOf, fnOf, intOfAV, bound, resOf, retV, moved, rowOf, valAt, Kd.agg, AV.cells, splice, places, fillAV, rowsFill, Hp.none, Yac, Yad, Yae, Yaf, ↓reduceIte, reduceCtorEq, Nat.reduceLT, Nat.reduceEqDiff, Nat.reduceAdd, Nat.reduceLeDiff, Nat.reducePow, Nat.reduceMul, Yay, Yaz, Yag, Yah, Yai, Yaj, Yak, Yal, Yam, Yan, Yao, Yap, Yaq, Yar, Yas, Yat, Yau, Yav, Yaw, Yax, Ybc, Ybd, Yba, Ybb, Yzz, tyW, i64w, hel, het, grA_nil, grA_cons, grT_nil, grT_cons, hfit, eq_true hnil, eq_true hone]
        refine ⟨(), ?_⟩
        subst r1
        exact cp_two (bx := [(0, encRl r)]) 2 1 6 3 (by decide) ⟨by decide, by show 6 < 7; decide⟩ ⟨by decide, by show 3 < 7; decide⟩ (by decide) rfl (allc ⟨_, rfl, .ptr (by show 0 < 4; decide) rfl⟩ (allc ⟨_, rfl, .ptr (by show 1 < 4; decide) rfl⟩ (allc ⟨_, rfl, .pure (.lit _)⟩ (allc ⟨_, rfl, .pure (.lit _)⟩ (allc ⟨_, rfl, .pure (.vec (pure_rows pure_encA _))⟩ (allc ⟨_, rfl, .pure (.lit _)⟩ (allc ⟨_, rfl, .pure (.lit _)⟩ alln))))))) (allc ⟨by show 0 < 2; decide, rfl, pure_encRl r⟩ alln) rfl (fun _ => (by show lk (grT 3 13 Q' ++ [_]) 6 = _; rw [lk_app, lk_grT_ne (by decide)]; rfl)) (fun h => by show lk (grT 3 13 Q' ++ [_]) 3 = _; rw [lk_app, lk_grT' h]; rfl) p1 p2
      | cons x l =>
        have hfit : fits (l.length + 1 + 1) 168 := fits_of' (by simp at l1; omega) (by simp at l1; omega)
        simp -implicitDefEqProofs (disch := omega) only [Xaa, Xab, Xac, Xad, Xae, Xaf, Xag, Xah, Xai, Xaj, Xak, Xal, Xam, Xan, Xao, Xap, Xaq, Xar, Xas, Xat, Xau, Xav, Xaw, Xax, Xay, Xaz, Xba, Xbb, awl, Xbc, Xbd, Xbe, Xbf, Xbg, Xbh, Xbi, Xbj, Xbk, Xbl, Xbm, Xbn, Xbo, Xbp, Xbq, ne_eq, srcRows, awo, aggEq, eqF, litEq, andO, qwl, qwo, qOp, Xbr, Xbs, Xbt, lop, Yaa, Yab, Xbu, Xbv, Xbw, oneK, Xbx, Xby, Xbz, Xca, Xcb, Xcc, Xcd, Xce, Xcf, Xcg, Xch, stepOp, Xci, Xcj, Xck, pairO, pureOp, heapOp, entry, slotsOf, ev, evL, evP, evO, lk, up, St.put, St.drop, constAV, cellAV, cellsAV, plain, binV, intBin, strBin, guardBit, boolOf, fnOf, intOfAV, bound, resOf, retV, moved, rowOf, valAt, Kd.agg, AV.cells, splice, places, fillAV, rowsFill, Hp.none, Yac, Yad, Yae, Yaf, ↓reduceIte, reduceCtorEq, Nat.reduceLT, Nat.reduceEqDiff, Nat.reduceAdd, Nat.reduceLeDiff, Nat.reducePow, Nat.reduceMul, Yay, Yaz, Yag, Yah, Yai, Yaj, Yak, Yal, Yam, Yan, Yao, Yap, Yaq, Yar, Yas, Yat, Yau, Yav, Yaw, Yax, Ybc, Ybd, Yba, Ybb, Yzz, tyW, i64w, hel, het, grA_nil, grA_cons, grT_nil, grT_cons, hfit, eq_true hnil, eq_true hone]
        refine ⟨(), ?_⟩
        subst r1
        exact cp_two (bx := [(0, encRl r)]) 2 1 2 3 (by decide) ⟨by decide, by show 2 < 6; decide⟩ ⟨by decide, by show 3 < 6; decide⟩ (by decide) rfl (allc ⟨_, rfl, .ptr (by show 0 < 4; decide) rfl⟩ (allc ⟨_, rfl, .ptr (by show 1 < 4; decide) rfl⟩ (allc ⟨_, rfl, .pure (.lit _)⟩ (allc ⟨_, rfl, .pure (.lit _)⟩ (allc ⟨_, rfl, .pure (.vec (pure_rows pure_encA _))⟩ (allc ⟨_, rfl, .pure (.lit _)⟩ (allc ⟨_, rfl, .pure (.lit _)⟩ alln))))))) (allc ⟨by show 0 < 2; decide, rfl, pure_encRl r⟩ alln) (by simp [lk, grA_cons]) (fun _ => rfl) (fun h => by show lk (grT 3 13 Q') 3 = _; exact lk_grT' h) p1 p2
    · cases hb : begN r.name a.e
      · refine CallK_of call31 (own_at (L' := grT 2 13 P ++ grT 3 13 Q) (copied_spec a.e hae) fun t => rfl) ?_
        rintro r' h' ⟨rfl, rfl⟩
        simp -implicitDefEqProofs (disch := omega) only [Xaa, Xab, Xac, Xad, Xae, Xaf, Xag, Xah, Xai, Xaj, Xak, Xal, Xam, Xan, Xao, Xap, Xaq, Xar, Xas, Xat, Xau, Xav, Xaw, Xax, Xay, Xaz, Xba, Xbb, awl, Xbc, Xbd, Xbe, Xbf, Xbg, Xbh, Xbi, Xbj, Xbk, Xbl, Xbm, Xbn, Xbo, Xbp, Xbq, ne_eq, srcRows, awo, aggEq, eqF, litEq, andO, qwl, qwo, qOp, Xbr, Xbs, Xbt, lop, Yaa, Yab, Xbu, Xbv, Xbw, oneK, Xbx, Xby, Xbz, Xca, Xcb, Xcc, Xcd, Xce, Xcf, Xcg, Xch, stepOp, Xci, Xcj, Xck, pairO, pureOp, heapOp, entry, slotsOf, ev, evL, evP, evO, lk, up, St.put, St.drop, constAV, cellAV, cellsAV, plain, binV, intBin, strBin, guardBit, boolOf, fnOf, intOfAV, bound, resOf, retV, moved, rowOf, valAt, Kd.agg, AV.cells, splice, places, fillAV, rowsFill, Hp.none, Yac, Yad, Yae, Yaf, ↓reduceIte, reduceCtorEq, Nat.reduceLT, Nat.reduceEqDiff, Nat.reduceAdd, Nat.reduceLeDiff, Nat.reducePow, Nat.reduceMul, Yay, Yaz, Yag, Yah, Yai, Yaj, Yak, Yal, Yam, Yan, Yao, Yap, Yaq, Yar, Yas, Yat, Yau, Yav, Yaw, Yax, Ybc, Ybd, Yba, Ybb, Yzz, tyW, i64w, encK_length, encK_take, encA_e, encA_length]
        refine CallK_pure call32 (spec32 r.name a.e) (by simp [Pure.lit]; exact pureE a.e) (.lit _) ?_
        simp -implicitDefEqProofs (disch := omega) only [Xaa, Xab, Xac, Xad, Xae, Xaf, Xag, Xah, Xai, Xaj, Xak, Xal, Xam, Xan, Xao, Xap, Xaq, Xar, Xas, Xat, Xau, Xav, Xaw, Xax, Xay, Xaz, Xba, Xbb, awl, Xbc, Xbd, Xbe, Xbf, Xbg, Xbh, Xbi, Xbj, Xbk, Xbl, Xbm, Xbn, Xbo, Xbp, Xbq, ne_eq, srcRows, awo, aggEq, eqF, litEq, andO, qwl, qwo, qOp, Xbr, Xbs, Xbt, lop, Yaa, Yab, Xbu, Xbv, Xbw, oneK, Xbx, Xby, Xbz, Xca, Xcb, Xcc, Xcd, Xce, Xcf, Xcg, Xch, stepOp, Xci, Xcj, Xck, pairO, pureOp, heapOp, entry, slotsOf, ev, evL, evP, evO, lk, up, St.put, St.drop, constAV, cellAV, cellsAV, plain, binV, intBin, strBin, guardBit, boolOf, fnOf, intOfAV, bound, resOf, retV, moved, rowOf, valAt, Kd.agg, AV.cells, splice, places, fillAV, rowsFill, Hp.none, Yac, Yad, Yae, Yaf, ↓reduceIte, reduceCtorEq, Nat.reduceLT, Nat.reduceEqDiff, Nat.reduceAdd, Nat.reduceLeDiff, Nat.reducePow, Nat.reduceMul, Yay, Yaz, Yag, Yah, Yai, Yaj, Yak, Yal, Yam, Yan, Yao, Yap, Yaq, Yar, Yas, Yat, Yau, Yav, Yaw, Yax, Ybc, Ybd, Yba, Ybb, Yzz, tyW, hb, encRl_alts, List.length_map, i64w]
        refine CallK_pure call15 (spec15 r.alts.length ((i : Int) + 1) (by omega) (by omega)) (by simp [Pure.lit]) (.lit _) ?_
        simp -implicitDefEqProofs only [Xaa, Xab, Xac, Xad, Xae, Xaf, Xag, Xah, Xai, Xaj, Xak, Xal, Xam, Xan, Xao, Xap, Xaq, Xar, Xas, Xat, Xau, Xav, Xaw, Xax, Xay, Xaz, Xba, Xbb, awl, Xbc, Xbd, Xbe, Xbf, Xbg, Xbh, Xbi, Xbj, Xbk, Xbl, Xbm, Xbn, Xbo, Xbp, Xbq, ne_eq, srcRows, awo, aggEq, eqF, litEq, andO, qwl, qwo, qOp, Xbr, Xbs, Xbt, lop, Yaa, Yab, Xbu, Xbv, Xbw, oneK, Xbx, Xby, Xbz, Xca, Xcb, Xcc, Xcd, Xce, Xcf, Xcg, Xch, stepOp, Xci, Xcj, Xck, pairO, pureOp, heapOp, entry, slotsOf, ev, evL, evP, evO, lk, up, St.put, St.drop, constAV, cellAV, cellsAV, plain, binV, intBin, strBin, guardBit, boolOf, fnOf, intOfAV, bound, resOf, retV, moved, rowOf, valAt, Kd.agg, AV.cells, splice, places, fillAV, rowsFill, Hp.none, Yac, Yad, Yae, Yaf, ↓reduceIte, reduceCtorEq, Nat.reduceLT, Nat.reduceEqDiff, Nat.reduceAdd, Nat.reduceLeDiff, Nat.reducePow, Nat.reduceMul, Yay, Yaz, Yag, Yah, Yai, Yaj, Yak, Yal, Yam, Yan, Yao, Yap, Yaq, Yar, Yas, Yat, Yau, Yav, Yaw, Yax, Ybc, Ybd, Yba, Ybb, Yzz, tyW]
        have hl : lk (grT 2 13 P ++ grT 3 13 Q) 5 = none ∧ lk (grT 2 13 P ++ grT 3 13 Q) 6 = none := by constructor <;> rw [lk_app, lk_grT_ne (by decide), lk_grT_ne (by decide)] <;> rfl
        refine CallK_of call33 (last_at r.name _ _ (lvl r.alts.length ((i : Int) + 1)) (cpE a.e) (by rw [esz_cp]; exact hae) (T := 5) rfl (by show 6 < 7; decide) (by show 5 < 7; decide) (by decide) hl.1 hl.2) ?_
        rintro r' h' ⟨rfl, rfl⟩
        have ht : turn r i a = (false, ⟨(i : Int) + 1, lvl r.alts.length ((i : Int) + 1), lastE r.name (lvl r.alts.length ((i : Int) + 1)) (cpE a.e)⟩) := by simp [turn, hR, hb]
        rw [ht] at r1 r2
        simp only [beq_self_eq_true, if_true, encB_eq, List.cons_append, List.nil_append] at r1
        have r2 : Q' = Q := r2
        subst r2
        generalize lastE r.name (lvl r.alts.length ((i : Int) + 1)) (cpE a.e) = e1 at r1 ⊢
        have hel := encE_length e1
        have het := encE_take e1
        have hnil : ∀ q ∈ ([] : List (List AV)), q.length = 13 := alln
        have hone : ∀ q ∈ [AV.lit (.int .i64 ((i : Int) + 1)) :: AV.lit (.int .i64 (lvl r.alts.length ((i : Int) + 1))) :: encE e1], q.length = 13 := by simp [hel]
        cases P with
        | nil =>
          have hfit : fits 1 168 := fits_of' (by decide) (by decide)
          simp -implicitDefEqProofs (disch := omega) only [Xaa, Xab, Xac, Xad, Xae, Xaf, Xag, Xah, Xai, Xaj, Xak, Xal, Xam, Xan, Xao, Xap, Xaq, Xar, Xas, Xat, Xau, Xav, Xaw, Xax, Xay, Xaz, Xba, Xbb, awl, Xbc, Xbd, Xbe, Xbf, Xbg, Xbh, Xbi, Xbj, Xbk, Xbl, Xbm, Xbn, Xbo, Xbp, Xbq, ne_eq, srcRows, awo, aggEq, eqF, litEq, andO, qwl, qwo, qOp, Xbr, Xbs, Xbt, lop, Yaa, Yab, Xbu, Xbv, Xbw, oneK, Xbx, Xby, Xbz, Xca, Xcb, Xcc, Xcd, Xce, Xcf, Xcg, Xch, stepOp, Xci, Xcj, Xck, pairO, pureOp, heapOp, entry, slotsOf, ev, evL, evP, evO, lk, up, St.put, St.drop, constAV, cellAV, cellsAV, plain, binV, intBin, strBin, guardBit, boolOf, fnOf, intOfAV, bound, resOf, retV, moved, rowOf, valAt, Kd.agg, AV.cells, splice, places, fillAV, rowsFill, Hp.none, Yac, Yad, Yae, Yaf, ↓reduceIte, reduceCtorEq, Nat.reduceLT, Nat.reduceEqDiff, Nat.reduceAdd, Nat.reduceLeDiff, Nat.reducePow, Nat.reduceMul, Yay, Yaz, Yag, Yah, Yai, Yaj, Yak, Yal, Yam, Yan, Yao, Yap, Yaq, Yar, Yas, Yat, Yau, Yav, Yaw, Yax, Ybc, Ybd, Yba, Ybb, Yzz, tyW, i64w, hel, het, grA_nil, grA_cons, grT_nil, grT_cons, hfit, eq_true hnil, eq_true hone]
          refine ⟨(), ?_⟩
          subst r1
          exact cp_two (bx := [(0, encRl r)]) 2 1 7 3 (by decide) ⟨by decide, by show 7 < 8; decide⟩ ⟨by decide, by show 3 < 8; decide⟩ (by decide) rfl (allc ⟨_, rfl, .ptr (by show 0 < 4; decide) rfl⟩ (allc ⟨_, rfl, .ptr (by show 1 < 4; decide) rfl⟩ (allc ⟨_, rfl, .pure (.lit _)⟩ (allc ⟨_, rfl, .pure (.lit _)⟩ (allc ⟨_, rfl, .pure (.vec (pure_rows pure_encA _))⟩ (allc ⟨_, rfl, .pure (.lit _)⟩ (allc ⟨_, rfl, .pure (.lit _)⟩ alln))))))) (allc ⟨by show 0 < 2; decide, rfl, pure_encRl r⟩ alln) rfl (fun _ => (by show lk (grT 3 13 Q' ++ [_]) 7 = _; rw [lk_app, lk_grT_ne (by decide)]; rfl)) (fun h => by show lk (grT 3 13 Q' ++ [_]) 3 = _; rw [lk_app, lk_grT' h]; rfl) p1 p2
        | cons x l =>
          have hfit : fits (l.length + 1 + 1) 168 := fits_of' (by simp at l1; omega) (by simp at l1; omega)
          simp -implicitDefEqProofs (disch := omega) only [Xaa, Xab, Xac, Xad, Xae, Xaf, Xag, Xah, Xai, Xaj, Xak, Xal, Xam, Xan, Xao, Xap, Xaq, Xar, Xas, Xat, Xau, Xav, Xaw, Xax, Xay, Xaz, Xba, Xbb, awl, Xbc, Xbd, Xbe, Xbf, Xbg, Xbh, Xbi, Xbj, Xbk, Xbl, Xbm, Xbn, Xbo, Xbp, Xbq, ne_eq, srcRows, awo, aggEq, eqF, litEq, andO, qwl, qwo, qOp, Xbr, Xbs, Xbt, lop, Yaa, Yab, Xbu, Xbv, Xbw, oneK, Xbx, Xby, Xbz, Xca, Xcb, Xcc, Xcd, Xce, Xcf, Xcg, Xch, stepOp, Xci, Xcj, Xck, pairO, pureOp, heapOp, entry, slotsOf, ev, evL, evP, evO, lk, up, St.put, St.drop, constAV, cellAV, cellsAV, plain, binV, intBin, strBin, guardBit, boolOf, fnOf, intOfAV, bound, resOf, retV, moved, rowOf, valAt, Kd.agg, AV.cells, splice, places, fillAV, rowsFill, Hp.none, Yac, Yad, Yae, Yaf, ↓reduceIte, reduceCtorEq, Nat.reduceLT, Nat.reduceEqDiff, Nat.reduceAdd, Nat.reduceLeDiff, Nat.reducePow, Nat.reduceMul, Yay, Yaz, Yag, Yah, Yai, Yaj, Yak, Yal, Yam, Yan, Yao, Yap, Yaq, Yar, Yas, Yat, Yau, Yav, Yaw, Yax, Ybc, Ybd, Yba, Ybb, Yzz, tyW, i64w, hel, het, grA_nil, grA_cons, grT_nil, grT_cons, hfit, eq_true hnil, eq_true hone]
          refine ⟨(), ?_⟩
          subst r1
          exact cp_two (bx := [(0, encRl r)]) 2 1 2 3 (by decide) ⟨by decide, by show 2 < 7; decide⟩ ⟨by decide, by show 3 < 7; decide⟩ (by decide) rfl (allc ⟨_, rfl, .ptr (by show 0 < 4; decide) rfl⟩ (allc ⟨_, rfl, .ptr (by show 1 < 4; decide) rfl⟩ (allc ⟨_, rfl, .pure (.lit _)⟩ (allc ⟨_, rfl, .pure (.lit _)⟩ (allc ⟨_, rfl, .pure (.vec (pure_rows pure_encA _))⟩ (allc ⟨_, rfl, .pure (.lit _)⟩ (allc ⟨_, rfl, .pure (.lit _)⟩ alln))))))) (allc ⟨by show 0 < 2; decide, rfl, pure_encRl r⟩ alln) (by simp [lk, grA_cons]) (fun _ => rfl) (fun h => by show lk (grT 3 13 Q') 3 = _; exact lk_grT' h) p1 p2
      · refine CallK_of call31 (own_at (L' := grT 3 13 Q ++ grT 2 13 P) (copied_spec a.e hae) fun t => ?_) ?_
        · rw [lk_app, lk_app]
          by_cases h2 : t = 2
          · subst h2; rw [lk_grT_ne (by decide : (2 : Nat) ≠ 3)]; simp
          · rw [lk_grT_ne h2]; simp
        rintro r' h' ⟨rfl, rfl⟩
        simp -implicitDefEqProofs (disch := omega) only [Xaa, Xab, Xac, Xad, Xae, Xaf, Xag, Xah, Xai, Xaj, Xak, Xal, Xam, Xan, Xao, Xap, Xaq, Xar, Xas, Xat, Xau, Xav, Xaw, Xax, Xay, Xaz, Xba, Xbb, awl, Xbc, Xbd, Xbe, Xbf, Xbg, Xbh, Xbi, Xbj, Xbk, Xbl, Xbm, Xbn, Xbo, Xbp, Xbq, ne_eq, srcRows, awo, aggEq, eqF, litEq, andO, qwl, qwo, qOp, Xbr, Xbs, Xbt, lop, Yaa, Yab, Xbu, Xbv, Xbw, oneK, Xbx, Xby, Xbz, Xca, Xcb, Xcc, Xcd, Xce, Xcf, Xcg, Xch, stepOp, Xci, Xcj, Xck, pairO, pureOp, heapOp, entry, slotsOf, ev, evL, evP, evO, lk, up, St.put, St.drop, constAV, cellAV, cellsAV, plain, binV, intBin, strBin, guardBit, boolOf, fnOf, intOfAV, bound, resOf, retV, moved, rowOf, valAt, Kd.agg, AV.cells, splice, places, fillAV, rowsFill, Hp.none, Yac, Yad, Yae, Yaf, ↓reduceIte, reduceCtorEq, Nat.reduceLT, Nat.reduceEqDiff, Nat.reduceAdd, Nat.reduceLeDiff, Nat.reducePow, Nat.reduceMul, Yay, Yaz, Yag, Yah, Yai, Yaj, Yak, Yal, Yam, Yan, Yao, Yap, Yaq, Yar, Yas, Yat, Yau, Yav, Yaw, Yax, Ybc, Ybd, Yba, Ybb, Yzz, tyW, i64w, encK_length, encK_take, encA_e, encA_length]
        refine CallK_pure call32 (spec32 r.name a.e) (by simp [Pure.lit]; exact pureE a.e) (.lit _) ?_
        simp -implicitDefEqProofs (disch := omega) only [Xaa, Xab, Xac, Xad, Xae, Xaf, Xag, Xah, Xai, Xaj, Xak, Xal, Xam, Xan, Xao, Xap, Xaq, Xar, Xas, Xat, Xau, Xav, Xaw, Xax, Xay, Xaz, Xba, Xbb, awl, Xbc, Xbd, Xbe, Xbf, Xbg, Xbh, Xbi, Xbj, Xbk, Xbl, Xbm, Xbn, Xbo, Xbp, Xbq, ne_eq, srcRows, awo, aggEq, eqF, litEq, andO, qwl, qwo, qOp, Xbr, Xbs, Xbt, lop, Yaa, Yab, Xbu, Xbv, Xbw, oneK, Xbx, Xby, Xbz, Xca, Xcb, Xcc, Xcd, Xce, Xcf, Xcg, Xch, stepOp, Xci, Xcj, Xck, pairO, pureOp, heapOp, entry, slotsOf, ev, evL, evP, evO, lk, up, St.put, St.drop, constAV, cellAV, cellsAV, plain, binV, intBin, strBin, guardBit, boolOf, fnOf, intOfAV, bound, resOf, retV, moved, rowOf, valAt, Kd.agg, AV.cells, splice, places, fillAV, rowsFill, Hp.none, Yac, Yad, Yae, Yaf, ↓reduceIte, reduceCtorEq, Nat.reduceLT, Nat.reduceEqDiff, Nat.reduceAdd, Nat.reduceLeDiff, Nat.reducePow, Nat.reduceMul, Yay, Yaz, Yag, Yah, Yai, Yaj, Yak, Yal, Yam, Yan, Yao, Yap, Yaq, Yar, Yas, Yat, Yau, Yav, Yaw, Yax, Ybc, Ybd, Yba, Ybb, Yzz, tyW, hb, encRl_alts, List.length_map, i64w]
        refine CallK_pure call15 (spec15 r.alts.length ((i : Int) + 1) (by omega) (by omega)) (by simp [Pure.lit]) (.lit _) ?_
        simp -implicitDefEqProofs (disch := omega) only [Xaa, Xab, Xac, Xad, Xae, Xaf, Xag, Xah, Xai, Xaj, Xak, Xal, Xam, Xan, Xao, Xap, Xaq, Xar, Xas, Xat, Xau, Xav, Xaw, Xax, Xay, Xaz, Xba, Xbb, awl, Xbc, Xbd, Xbe, Xbf, Xbg, Xbh, Xbi, Xbj, Xbk, Xbl, Xbm, Xbn, Xbo, Xbp, Xbq, ne_eq, srcRows, awo, aggEq, eqF, litEq, andO, qwl, qwo, qOp, Xbr, Xbs, Xbt, lop, Yaa, Yab, Xbu, Xbv, Xbw, oneK, Xbx, Xby, Xbz, Xca, Xcb, Xcc, Xcd, Xce, Xcf, Xcg, Xch, stepOp, Xci, Xcj, Xck, pairO, pureOp, heapOp, entry, slotsOf, ev, evL, evP, evO, lk, up, St.put, St.drop, constAV, cellAV, cellsAV, plain, binV, intBin, strBin, guardBit, boolOf, fnOf, intOfAV, bound, resOf, retV, moved, rowOf, valAt, Kd.agg, AV.cells, splice, places, fillAV, rowsFill, Hp.none, Yac, Yad, Yae, Yaf, ↓reduceIte, reduceCtorEq, Nat.reduceLT, Nat.reduceEqDiff, Nat.reduceAdd, Nat.reduceLeDiff, Nat.reducePow, Nat.reduceMul, Yay, Yaz, Yag, Yah, Yai, Yaj, Yak, Yal, Yam, Yan, Yao, Yap, Yaq, Yar, Yas, Yat, Yau, Yav, Yaw, Yax, Ybc, Ybd, Yba, Ybb, Yzz, tyW, i64w, lvl_bd hi, encA_r]
        have hl : lk (grT 3 13 Q ++ grT 2 13 P) 5 = none ∧ lk (grT 3 13 Q ++ grT 2 13 P) 6 = none := by constructor <;> rw [lk_app, lk_grT_ne (by decide), lk_grT_ne (by decide)] <;> rfl
        cases hri : a.right
        · simp -implicitDefEqProofs (disch := omega) only [Xaa, Xab, Xac, Xad, Xae, Xaf, Xag, Xah, Xai, Xaj, Xak, Xal, Xam, Xan, Xao, Xap, Xaq, Xar, Xas, Xat, Xau, Xav, Xaw, Xax, Xay, Xaz, Xba, Xbb, awl, Xbc, Xbd, Xbe, Xbf, Xbg, Xbh, Xbi, Xbj, Xbk, Xbl, Xbm, Xbn, Xbo, Xbp, Xbq, ne_eq, srcRows, awo, aggEq, eqF, litEq, andO, qwl, qwo, qOp, Xbr, Xbs, Xbt, lop, Yaa, Yab, Xbu, Xbv, Xbw, oneK, Xbx, Xby, Xbz, Xca, Xcb, Xcc, Xcd, Xce, Xcf, Xcg, Xch, stepOp, Xci, Xcj, Xck, pairO, pureOp, heapOp, entry, slotsOf, ev, evL, evP, evO, lk, up, St.put, St.drop, constAV, cellAV, cellsAV, plain, binV, intBin, strBin, guardBit, boolOf, fnOf, intOfAV, bound, resOf, retV, moved, rowOf, valAt, Kd.agg, AV.cells, splice, places, fillAV, rowsFill, Hp.none, Yac, Yad, Yae, Yaf, ↓reduceIte, reduceCtorEq, Nat.reduceLT, Nat.reduceEqDiff, Nat.reduceAdd, Nat.reduceLeDiff, Nat.reducePow, Nat.reduceMul, Yay, Yaz, Yag, Yah, Yai, Yaj, Yak, Yal, Yam, Yan, Yao, Yap, Yaq, Yar, Yas, Yat, Yau, Yav, Yaw, Yax, Ybc, Ybd, Yba, Ybb, Yzz, tyW, i64w, encA_length, encA_r]
          refine CallK_of call33 (last_at r.name _ _ ((r.alts.length : Int) - i + 1) (cpE a.e) (by rw [esz_cp]; exact hae) (T := 5) rfl (by show 6 < 7; decide) (by show 5 < 7; decide) (by decide) hl.1 hl.2) ?_
          rintro r' h' ⟨rfl, rfl⟩
          have ht : turn r i a = (true, ⟨(i : Int) + 1, (r.alts.length : Int) - i, restE (lastE r.name ((r.alts.length : Int) - i + 1) (cpE a.e))⟩) := by simp [turn, hR, hb, hri, lvl_bd hi]
          rw [ht] at r1 r2
          simp only [beq_self_eq_true, if_true, encB_eq, List.cons_append, List.nil_append] at r2
          have r1 : P' = P := r1
          subst r1
          generalize lastE r.name ((r.alts.length : Int) - i + 1) (cpE a.e) = e0 at r2 ⊢
          have hel0 := encE_length e0
          have het0 := encE_take e0
          have hed0 : (encE e0).drop 11 = [] := List.drop_of_length_le (Nat.le_of_eq hel0)
          simp -implicitDefEqProofs (disch := omega) only [Xaa, Xab, Xac, Xad, Xae, Xaf, Xag, Xah, Xai, Xaj, Xak, Xal, Xam, Xan, Xao, Xap, Xaq, Xar, Xas, Xat, Xau, Xav, Xaw, Xax, Xay, Xaz, Xba, Xbb, awl, Xbc, Xbd, Xbe, Xbf, Xbg, Xbh, Xbi, Xbj, Xbk, Xbl, Xbm, Xbn, Xbo, Xbp, Xbq, ne_eq, srcRows, awo, aggEq, eqF, litEq, andO, qwl, qwo, qOp, Xbr, Xbs, Xbt, lop, Yaa, Yab, Xbu, Xbv, Xbw, oneK, Xbx, Xby, Xbz, Xca, Xcb, Xcc, Xcd, Xce, Xcf, Xcg, Xch, stepOp, Xci, Xcj, Xck, pairO, pureOp, heapOp, entry, slotsOf, ev, evL, evP, evO, lk, up, St.put, St.drop, constAV, cellAV, cellsAV, plain, binV, intBin, strBin, guardBit, boolOf, fnOf, intOfAV, bound, resOf, retV, moved, rowOf, valAt, Kd.agg, AV.cells, splice, places, fillAV, rowsFill, Hp.none, Yac, Yad, Yae, Yaf, ↓reduceIte, reduceCtorEq, Nat.reduceLT, Nat.reduceEqDiff, Nat.reduceAdd, Nat.reduceLeDiff, Nat.reducePow, Nat.reduceMul, Yay, Yaz, Yag, Yah, Yai, Yaj, Yak, Yal, Yam, Yan, Yao, Yap, Yaq, Yar, Yas, Yat, Yau, Yav, Yaw, Yax, Ybc, Ybd, Yba, Ybb, Yzz, tyW, i64w, hel0, het0]
          refine CallK_pure call35 (spec35 e0) (by simp [Pure.lit]; exact pureE e0) (pureE (restE e0)) ?_
          generalize restE e0 = e1 at r2 ⊢
          have hel := encE_length e1
          have het := encE_take e1
          have hnil : ∀ q ∈ ([] : List (List AV)), q.length = 13 := alln
          have hone : ∀ q ∈ [AV.lit (.int .i64 ((i : Int) + 1)) :: AV.lit (.int .i64 ((r.alts.length : Int) - i)) :: encE e1], q.length = 13 := by simp [hel]
          cases Q with
          | nil =>
            have hfit : fits 1 168 := fits_of' (by decide) (by decide)
            simp -implicitDefEqProofs (disch := omega) only [Xaa, Xab, Xac, Xad, Xae, Xaf, Xag, Xah, Xai, Xaj, Xak, Xal, Xam, Xan, Xao, Xap, Xaq, Xar, Xas, Xat, Xau, Xav, Xaw, Xax, Xay, Xaz, Xba, Xbb, awl, Xbc, Xbd, Xbe, Xbf, Xbg, Xbh, Xbi, Xbj, Xbk, Xbl, Xbm, Xbn, Xbo, Xbp, Xbq, ne_eq, srcRows, awo, aggEq, eqF, litEq, andO, qwl, qwo, qOp, Xbr, Xbs, Xbt, lop, Yaa, Yab, Xbu, Xbv, Xbw, oneK, Xbx, Xby, Xbz, Xca, Xcb, Xcc, Xcd, Xce, Xcf, Xcg, Xch, stepOp, Xci, Xcj, Xck, pairO, pureOp, heapOp, entry, slotsOf, ev, evL, evP, evO, lk, up, St.put, St.drop, constAV, cellAV, cellsAV, plain, binV, intBin, strBin, guardBit, boolOf, fnOf, intOfAV, bound, resOf, retV, moved, rowOf, valAt, Kd.agg, AV.cells, splice, places, fillAV, rowsFill, Hp.none, Yac, Yad, Yae, Yaf, ↓reduceIte, reduceCtorEq, Nat.reduceLT, Nat.reduceEqDiff, Nat.reduceAdd, Nat.reduceLeDiff, Nat.reducePow, Nat.reduceMul, Yay, Yaz, Yag, Yah, Yai, Yaj, Yak, Yal, Yam, Yan, Yao, Yap, Yaq, Yar, Yas, Yat, Yau, Yav, Yaw, Yax, Ybc, Ybd, Yba, Ybb, Yzz, tyW, i64w, hel, het, grA_nil, grA_cons, grT_nil, grT_cons, hfit, eq_true hnil, eq_true hone, hel0, hed0, List.append_nil]
            refine ⟨(), ?_⟩
            subst r2
            exact cp_two (bx := [(0, encRl r)]) 2 1 2 7 (by decide) ⟨by decide, by show 2 < 8; decide⟩ ⟨by decide, by show 7 < 8; decide⟩ (by decide) rfl (allc ⟨_, rfl, .ptr (by show 0 < 4; decide) rfl⟩ (allc ⟨_, rfl, .ptr (by show 1 < 4; decide) rfl⟩ (allc ⟨_, rfl, .pure (.lit _)⟩ (allc ⟨_, rfl, .pure (.lit _)⟩ (allc ⟨_, rfl, .pure (.vec (pure_rows pure_encA _))⟩ (allc ⟨_, rfl, .pure (.lit _)⟩ (allc ⟨_, rfl, .pure (.lit _)⟩ alln))))))) (allc ⟨by show 0 < 2; decide, rfl, pure_encRl r⟩ alln) rfl (fun h => by show lk (grT 2 13 P' ++ [_]) 2 = _; rw [lk_app, lk_grT' h]; rfl) (fun _ => (by show lk (grT 2 13 P' ++ [_]) 7 = _; rw [lk_app, lk_grT_ne (by decide)]; rfl)) p1 p2
          | cons x l =>
            have hfit : fits (l.length + 1 + 1) 168 := fits_of' (by simp at l2; omega) (by simp at l2; omega)
            simp -implicitDefEqProofs (disch := omega) only [Xaa, Xab, Xac, Xad, Xae, Xaf, Xag, Xah, Xai, Xaj, Xak, Xal, Xam, Xan, Xao, Xap, Xaq, Xar, Xas, Xat, Xau, Xav, Xaw, Xax, Xay, Xaz, Xba, Xbb, awl, Xbc, Xbd, Xbe, Xbf, Xbg, Xbh, Xbi, Xbj, Xbk, Xbl, Xbm, Xbn, Xbo, Xbp, Xbq, ne_eq, srcRows, awo, aggEq, eqF, litEq, andO, qwl, qwo, qOp, Xbr, Xbs, Xbt, lop, Yaa, Yab, Xbu, Xbv, Xbw, oneK, Xbx, Xby, Xbz, Xca, Xcb, Xcc, Xcd, Xce, Xcf, Xcg, Xch, stepOp, Xci, Xcj, Xck, pairO, pureOp, heapOp, entry, slotsOf, ev, evL, evP, evO, lk, up, St.put, St.drop, constAV, cellAV, cellsAV, plain, binV, intBin, strBin, guardBit, boolOf, fnOf, intOfAV, bound, resOf, retV, moved, rowOf, valAt, Kd.agg, AV.cells, splice, places, fillAV, rowsFill, Hp.none, Yac, Yad, Yae, Yaf, ↓reduceIte, reduceCtorEq, Nat.reduceLT, Nat.reduceEqDiff, Nat.reduceAdd, Nat.reduceLeDiff, Nat.reducePow, Nat.reduceMul, Yay, Yaz, Yag, Yah, Yai, Yaj, Yak, Yal, Yam, Yan, Yao, Yap, Yaq, Yar, Yas, Yat, Yau, Yav, Yaw, Yax, Ybc, Ybd, Yba, Ybb, Yzz, tyW, i64w, hel, het, grA_nil, grA_cons, grT_nil, grT_cons, hfit, eq_true hnil, eq_true hone, hel0, hed0, List.append_nil]
            refine ⟨(), ?_⟩
            subst r2
            exact cp_two (bx := [(0, encRl r)]) 2 1 2 3 (by decide) ⟨by decide, by show 2 < 7; decide⟩ ⟨by decide, by show 3 < 7; decide⟩ (by decide) rfl (allc ⟨_, rfl, .ptr (by show 0 < 4; decide) rfl⟩ (allc ⟨_, rfl, .ptr (by show 1 < 4; decide) rfl⟩ (allc ⟨_, rfl, .pure (.lit _)⟩ (allc ⟨_, rfl, .pure (.lit _)⟩ (allc ⟨_, rfl, .pure (.vec (pure_rows pure_encA _))⟩ (allc ⟨_, rfl, .pure (.lit _)⟩ (allc ⟨_, rfl, .pure (.lit _)⟩ alln))))))) (allc ⟨by show 0 < 2; decide, rfl, pure_encRl r⟩ alln) (by simp [lk, grA_cons]) (fun h => by show lk (grT 2 13 P') 2 = _; exact lk_grT' h) (fun _ => rfl) p1 p2
        · simp -implicitDefEqProofs (disch := omega) only [Xaa, Xab, Xac, Xad, Xae, Xaf, Xag, Xah, Xai, Xaj, Xak, Xal, Xam, Xan, Xao, Xap, Xaq, Xar, Xas, Xat, Xau, Xav, Xaw, Xax, Xay, Xaz, Xba, Xbb, awl, Xbc, Xbd, Xbe, Xbf, Xbg, Xbh, Xbi, Xbj, Xbk, Xbl, Xbm, Xbn, Xbo, Xbp, Xbq, ne_eq, srcRows, awo, aggEq, eqF, litEq, andO, qwl, qwo, qOp, Xbr, Xbs, Xbt, lop, Yaa, Yab, Xbu, Xbv, Xbw, oneK, Xbx, Xby, Xbz, Xca, Xcb, Xcc, Xcd, Xce, Xcf, Xcg, Xch, stepOp, Xci, Xcj, Xck, pairO, pureOp, heapOp, entry, slotsOf, ev, evL, evP, evO, lk, up, St.put, St.drop, constAV, cellAV, cellsAV, plain, binV, intBin, strBin, guardBit, boolOf, fnOf, intOfAV, bound, resOf, retV, moved, rowOf, valAt, Kd.agg, AV.cells, splice, places, fillAV, rowsFill, Hp.none, Yac, Yad, Yae, Yaf, ↓reduceIte, reduceCtorEq, Nat.reduceLT, Nat.reduceEqDiff, Nat.reduceAdd, Nat.reduceLeDiff, Nat.reducePow, Nat.reduceMul, Yay, Yaz, Yag, Yah, Yai, Yaj, Yak, Yal, Yam, Yan, Yao, Yap, Yaq, Yar, Yas, Yat, Yau, Yav, Yaw, Yax, Ybc, Ybd, Yba, Ybb, Yzz, tyW, i64w, encA_length, encA_r]
          refine CallK_of call33 (last_at r.name _ _ ((r.alts.length : Int) - i) (cpE a.e) (by rw [esz_cp]; exact hae) (T := 5) rfl (by show 6 < 7; decide) (by show 5 < 7; decide) (by decide) hl.1 hl.2) ?_
          rintro r' h' ⟨rfl, rfl⟩
          have ht : turn r i a = (true, ⟨(i : Int) + 1, (r.alts.length : Int) - i, restE (lastE r.name ((r.alts.length : Int) - i) (cpE a.e))⟩) := by simp [turn, hR, hb, hri, lvl_bd hi]
          rw [ht] at r1 r2
          simp only [beq_self_eq_true, if_true, encB_eq, List.cons_append, List.nil_append] at r2
          have r1 : P' = P := r1
          subst r1
          generalize lastE r.name ((r.alts.length : Int) - i) (cpE a.e) = e0 at r2 ⊢
          have hel0 := encE_length e0
          have het0 := encE_take e0
          have hed0 : (encE e0).drop 11 = [] := List.drop_of_length_le (Nat.le_of_eq hel0)
          simp -implicitDefEqProofs (disch := omega) only [Xaa, Xab, Xac, Xad, Xae, Xaf, Xag, Xah, Xai, Xaj, Xak, Xal, Xam, Xan, Xao, Xap, Xaq, Xar, Xas, Xat, Xau, Xav, Xaw, Xax, Xay, Xaz, Xba, Xbb, awl, Xbc, Xbd, Xbe, Xbf, Xbg, Xbh, Xbi, Xbj, Xbk, Xbl, Xbm, Xbn, Xbo, Xbp, Xbq, ne_eq, srcRows, awo, aggEq, eqF, litEq, andO, qwl, qwo, qOp, Xbr, Xbs, Xbt, lop, Yaa, Yab, Xbu, Xbv, Xbw, oneK, Xbx, Xby, Xbz, Xca, Xcb, Xcc, Xcd, Xce, Xcf, Xcg, Xch, stepOp, Xci, Xcj, Xck, pairO, pureOp, heapOp, entry, slotsOf, ev, evL, evP, evO, lk, up, St.put, St.drop, constAV, cellAV, cellsAV, plain, binV, intBin, strBin, guardBit, boolOf, fnOf, intOfAV, bound, resOf, retV, moved, rowOf, valAt, Kd.agg, AV.cells, splice, places, fillAV, rowsFill, Hp.none, Yac, Yad, Yae, Yaf, ↓reduceIte, reduceCtorEq, Nat.reduceLT, Nat.reduceEqDiff, Nat.reduceAdd, Nat.reduceLeDiff, Nat.reducePow, Nat.reduceMul, Yay, Yaz, Yag, Yah, Yai, Yaj, Yak, Yal, Yam, Yan, Yao, Yap, Yaq, Yar, Yas, Yat, Yau, Yav, Yaw, Yax, Ybc, Ybd, Yba, Ybb, Yzz, tyW, i64w, hel0, het0]
          refine CallK_pure call35 (spec35 e0) (by simp [Pure.lit]; exact pureE e0) (pureE (restE e0)) ?_
          generalize restE e0 = e1 at r2 ⊢
          have hel := encE_length e1
          have het := encE_take e1
          have hnil : ∀ q ∈ ([] : List (List AV)), q.length = 13 := alln
          have hone : ∀ q ∈ [AV.lit (.int .i64 ((i : Int) + 1)) :: AV.lit (.int .i64 ((r.alts.length : Int) - i)) :: encE e1], q.length = 13 := by simp [hel]
          cases Q with
          | nil =>
            have hfit : fits 1 168 := fits_of' (by decide) (by decide)
            simp -implicitDefEqProofs (disch := omega) only [Xaa, Xab, Xac, Xad, Xae, Xaf, Xag, Xah, Xai, Xaj, Xak, Xal, Xam, Xan, Xao, Xap, Xaq, Xar, Xas, Xat, Xau, Xav, Xaw, Xax, Xay, Xaz, Xba, Xbb, awl, Xbc, Xbd, Xbe, Xbf, Xbg, Xbh, Xbi, Xbj, Xbk, Xbl, Xbm, Xbn, Xbo, Xbp, Xbq, ne_eq, srcRows, awo, aggEq, eqF, litEq, andO, qwl, qwo, qOp, Xbr, Xbs, Xbt, lop, Yaa, Yab, Xbu, Xbv, Xbw, oneK, Xbx, Xby, Xbz, Xca, Xcb, Xcc, Xcd, Xce, Xcf, Xcg, Xch, stepOp, Xci, Xcj, Xck, pairO, pureOp, heapOp, entry, slotsOf, ev, evL, evP, evO, lk, up, St.put, St.drop, constAV, cellAV, cellsAV, plain, binV, intBin, strBin, guardBit, boolOf, fnOf, intOfAV, bound, resOf, retV, moved, rowOf, valAt, Kd.agg, AV.cells, splice, places, fillAV, rowsFill, Hp.none, Yac, Yad, Yae, Yaf, ↓reduceIte, reduceCtorEq, Nat.reduceLT, Nat.reduceEqDiff, Nat.reduceAdd, Nat.reduceLeDiff, Nat.reducePow, Nat.reduceMul, Yay, Yaz, Yag, Yah, Yai, Yaj, Yak, Yal, Yam, Yan, Yao, Yap, Yaq, Yar, Yas, Yat, Yau, Yav, Yaw, Yax, Ybc, Ybd, Yba, Ybb, Yzz, tyW, i64w, hel, het, grA_nil, grA_cons, grT_nil, grT_cons, hfit, eq_true hnil, eq_true hone, hel0, hed0, List.append_nil]
            refine ⟨(), ?_⟩
            subst r2
            exact cp_two (bx := [(0, encRl r)]) 2 1 2 7 (by decide) ⟨by decide, by show 2 < 8; decide⟩ ⟨by decide, by show 7 < 8; decide⟩ (by decide) rfl (allc ⟨_, rfl, .ptr (by show 0 < 4; decide) rfl⟩ (allc ⟨_, rfl, .ptr (by show 1 < 4; decide) rfl⟩ (allc ⟨_, rfl, .pure (.lit _)⟩ (allc ⟨_, rfl, .pure (.lit _)⟩ (allc ⟨_, rfl, .pure (.vec (pure_rows pure_encA _))⟩ (allc ⟨_, rfl, .pure (.lit _)⟩ (allc ⟨_, rfl, .pure (.lit _)⟩ alln))))))) (allc ⟨by show 0 < 2; decide, rfl, pure_encRl r⟩ alln) rfl (fun h => by show lk (grT 2 13 P' ++ [_]) 2 = _; rw [lk_app, lk_grT' h]; rfl) (fun _ => (by show lk (grT 2 13 P' ++ [_]) 7 = _; rw [lk_app, lk_grT_ne (by decide)]; rfl)) p1 p2
          | cons x l =>
            have hfit : fits (l.length + 1 + 1) 168 := fits_of' (by simp at l2; omega) (by simp at l2; omega)
            simp -implicitDefEqProofs (disch := omega) only [Xaa, Xab, Xac, Xad, Xae, Xaf, Xag, Xah, Xai, Xaj, Xak, Xal, Xam, Xan, Xao, Xap, Xaq, Xar, Xas, Xat, Xau, Xav, Xaw, Xax, Xay, Xaz, Xba, Xbb, awl, Xbc, Xbd, Xbe, Xbf, Xbg, Xbh, Xbi, Xbj, Xbk, Xbl, Xbm, Xbn, Xbo, Xbp, Xbq, ne_eq, srcRows, awo, aggEq, eqF, litEq, andO, qwl, qwo, qOp, Xbr, Xbs, Xbt, lop, Yaa, Yab, Xbu, Xbv, Xbw, oneK, Xbx, Xby, Xbz, Xca, Xcb, Xcc, Xcd, Xce, Xcf, Xcg, Xch, stepOp, Xci, Xcj, Xck, pairO, pureOp, heapOp, entry, slotsOf, ev, evL, evP, evO, lk, up, St.put, St.drop, constAV, cellAV, cellsAV, plain, binV, intBin, strBin, guardBit, boolOf, fnOf, intOfAV, bound, resOf, retV, moved, rowOf, valAt, Kd.agg, AV.cells, splice, places, fillAV, rowsFill, Hp.none, Yac, Yad, Yae, Yaf, ↓reduceIte, reduceCtorEq, Nat.reduceLT, Nat.reduceEqDiff, Nat.reduceAdd, Nat.reduceLeDiff, Nat.reducePow, Nat.reduceMul, Yay, Yaz, Yag, Yah, Yai, Yaj, Yak, Yal, Yam, Yan, Yao, Yap, Yaq, Yar, Yas, Yat, Yau, Yav, Yaw, Yax, Ybc, Ybd, Yba, Ybb, Yzz, tyW, i64w, hel, het, grA_nil, grA_cons, grT_nil, grT_cons, hfit, eq_true hnil, eq_true hone, hel0, hed0, List.append_nil]
            refine ⟨(), ?_⟩
            subst r2
            exact cp_two (bx := [(0, encRl r)]) 2 1 2 3 (by decide) ⟨by decide, by show 2 < 7; decide⟩ ⟨by decide, by show 3 < 7; decide⟩ (by decide) rfl (allc ⟨_, rfl, .ptr (by show 0 < 4; decide) rfl⟩ (allc ⟨_, rfl, .ptr (by show 1 < 4; decide) rfl⟩ (allc ⟨_, rfl, .pure (.lit _)⟩ (allc ⟨_, rfl, .pure (.lit _)⟩ (allc ⟨_, rfl, .pure (.vec (pure_rows pure_encA _))⟩ (allc ⟨_, rfl, .pure (.lit _)⟩ (allc ⟨_, rfl, .pure (.lit _)⟩ alln))))))) (allc ⟨by show 0 < 2; decide, rfl, pure_encRl r⟩ alln) (by simp [lk, grA_cons]) (fun h => by show lk (grT 2 13 P') 2 = _; exact lk_grT' h) (fun _ => rfl) p1 p2
  · intro _ _
    unfold ofS
    have p1 := pure_rws r false r.alts.length
    have p2 := pure_rws r true r.alts.length
    generalize rws r false r.alts.length = P at p1 ⊢
    generalize rws r true r.alts.length = Q at p2 ⊢
    simp -implicitDefEqProofs only [Xaa, Xab, Xac, Xad, Xae, Xaf, Xag, Xah, Xai, Xaj, Xak, Xal, Xam, Xan, Xao, Xap, Xaq, Xar, Xas, Xat, Xau, Xav, Xaw, Xax, Xay, Xaz, Xba, Xbb, awl, Xbc, Xbd, Xbe, Xbf, Xbg, Xbh, Xbi, Xbj, Xbk, Xbl, Xbm, Xbn, Xbo, Xbp, Xbq, ne_eq, srcRows, awo, aggEq, eqF, litEq, andO, qwl, qwo, qOp, Xbr, Xbs, Xbt, lop, Yaa, Yab, Xbu, Xbv, Xbw, oneK, Xbx, Xby, Xbz, Xca, Xcb, Xcc, Xcd, Xce, Xcf, Xcg, Xch, stepOp, Xci, Xcj, Xck, pairO, pureOp, heapOp, entry, slotsOf, ev, evL, evP, evO, lk, up, St.put, St.drop, constAV, cellAV, cellsAV, plain, binV, intBin, strBin, guardBit, boolOf, fnOf, intOfAV, bound, resOf, retV, moved, rowOf, valAt, Kd.agg, AV.cells, splice, places, fillAV, rowsFill, Hp.none, Yac, Yad, Yae, Yaf, ↓reduceIte, reduceCtorEq, Nat.reduceLT, Nat.reduceEqDiff, Nat.reduceAdd, Nat.reduceLeDiff, Nat.reducePow, Nat.reduceMul, Yay, Yaz, Yag, Yah, Yai, Yaj, Yak, Yal, Yam, Yan, Yao, Yap, Yaq, Yar, Yas, Yat, Yau, Yav, Yaw, Yax, Ybc, Ybd, Yba, Ybb, Yzz, tyW]
    refine .intro (fun hb => ?_) (fun hb => ?_)
    case' refine_1 => exfalso; have := of_decide_eq_true hb; omega
    clear hb
    simp -implicitDefEqProofs only [Xaa, Xab, Xac, Xad, Xae, Xaf, Xag, Xah, Xai, Xaj, Xak, Xal, Xam, Xan, Xao, Xap, Xaq, Xar, Xas, Xat, Xau, Xav, Xaw, Xax, Xay, Xaz, Xba, Xbb, awl, Xbc, Xbd, Xbe, Xbf, Xbg, Xbh, Xbi, Xbj, Xbk, Xbl, Xbm, Xbn, Xbo, Xbp, Xbq, ne_eq, srcRows, awo, aggEq, eqF, litEq, andO, qwl, qwo, qOp, Xbr, Xbs, Xbt, lop, Yaa, Yab, Xbu, Xbv, Xbw, oneK, Xbx, Xby, Xbz, Xca, Xcb, Xcc, Xcd, Xce, Xcf, Xcg, Xch, stepOp, Xci, Xcj, Xck, pairO, pureOp, heapOp, entry, slotsOf, ev, evL, evP, evO, lk, up, St.put, St.drop, constAV, cellAV, cellsAV, plain, binV, intBin, strBin, guardBit, boolOf, fnOf, intOfAV, bound, resOf, retV, moved, rowOf, valAt, Kd.agg, AV.cells, splice, places, fillAV, rowsFill, Hp.none, Yac, Yad, Yae, Yaf, ↓reduceIte, reduceCtorEq, Nat.reduceLT, Nat.reduceEqDiff, Nat.reduceAdd, Nat.reduceLeDiff, Nat.reducePow, Nat.reduceMul, Yay, Yaz, Yag, Yah, Yai, Yaj, Yak, Yal, Yam, Yan, Yao, Yap, Yaq, Yar, Yas, Yat, Yau, Yav, Yaw, Yax, Ybc, Ybd, Yba, Ybb, Yzz, tyW]
    refine ⟨_, St.wk.cp (St.wk.refl _), ?_⟩
    simp -implicitDefEqProofs only [Xaa, Xab, Xac, Xad, Xae, Xaf, Xag, Xah, Xai, Xaj, Xak, Xal, Xam, Xan, Xao, Xap, Xaq, Xar, Xas, Xat, Xau, Xav, Xaw, Xax, Xay, Xaz, Xba, Xbb, awl, Xbc, Xbd, Xbe, Xbf, Xbg, Xbh, Xbi, Xbj, Xbk, Xbl, Xbm, Xbn, Xbo, Xbp, Xbq, ne_eq, srcRows, awo, aggEq, eqF, litEq, andO, qwl, qwo, qOp, Xbr, Xbs, Xbt, lop, Yaa, Yab, Xbu, Xbv, Xbw, oneK, Xbx, Xby, Xbz, Xca, Xcb, Xcc, Xcd, Xce, Xcf, Xcg, Xch, stepOp, Xci, Xcj, Xck, pairO, pureOp, heapOp, entry, slotsOf, ev, evL, evP, evO, lk, up, St.put, St.drop, constAV, cellAV, cellsAV, plain, binV, intBin, strBin, guardBit, boolOf, fnOf, intOfAV, bound, resOf, retV, moved, rowOf, valAt, Kd.agg, AV.cells, splice, places, fillAV, rowsFill, Hp.none, Yac, Yad, Yae, Yaf, ↓reduceIte, reduceCtorEq, Nat.reduceLT, Nat.reduceEqDiff, Nat.reduceAdd, Nat.reduceLeDiff, Nat.reducePow, Nat.reduceMul, Yay, Yaz, Yag, Yah, Yai, Yaj, Yak, Yal, Yam, Yan, Yao, Yap, Yaq, Yar, Yas, Yat, Yau, Yav, Yaw, Yax, Ybc, Ybd, Yba, Ybb, Yzz, tyW]
    exact expo_agg (expoL_cons (expo_gr2 p1 fun h => by show lk (grT 2 13 P ++ grT 3 13 Q) 2 = _; rw [lk_app, lk_grT' h]; rfl) (expoL_cons (expo_gr2 p2 fun h => by show lk (grT 2 13 P ++ grT 3 13 Q) 3 = _; rw [lk_app, lk_grT_ne (by decide)]; exact lk_grT' h) expoL_nil))
end Go.Proofs.Ytkbnnipiacajoaa
