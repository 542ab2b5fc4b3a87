/- Contracts: rows of bits of one word. Conditions: those that each theorem names. -/
import Derived.Test.YtogdlomemaoajaaMore1
import Derived.Test.YtogdlomemaoajaaGrow
namespace Go.Proofs.Ytogdlomemaoajaa
open Go.Ab
set_option linter.unusedSimpArgs false
set_option linter.unusedVariables false
set_option maxRecDepth 20000

def wT (w : Int) : Tk := ⟨[[.lit (.int .u64 w)]], 0, 1⟩
def wH (w : Int) : Hp := ⟨[], [(0, wT w)], 1⟩
theorem wH_own (w : Int) : Own (wH w) := ⟨alln, allc ⟨by show 0 < 1; decide, .pure (by simp [wT, Pure.lit])⟩ alln⟩

def setW (w i : Int) : Int := IntKind.u64.wrap (BitVec.ofInt IntKind.u64.bits w ||| BitVec.ofInt IntKind.u64.bits (IntKind.u64.wrap (1 * 2 ^ min i.toNat IntKind.u64.bits))).toNat
def getW (w i : Int) : Bool := IntKind.u64.wrap (BitVec.ofInt IntKind.u64.bits (w.fdiv (2 ^ min i.toNat IntKind.u64.bits)) &&& BitVec.ofInt IntKind.u64.bits 1).toNat == 1
def orW (a b : Int) : Int := IntKind.u64.wrap (BitVec.ofInt IntKind.u64.bits a ||| BitVec.ofInt IntKind.u64.bits b).toNat
theorem shr6 {i : Int} (h0 : 0 ≤ i) (h1 : i < 64) : i.fdiv (2 ^ min (Int.toNat 6) IntKind.i64.bits) = 0 := by
  have : (2 : Int) ^ min (Int.toNat 6) IntKind.i64.bits = 64 := by decide
  rw [this, Int.fdiv_eq_ediv_of_nonneg _ (by decide)]
  omega
theorem and63 {i : Int} (h0 : 0 ≤ i) (h1 : i < 64) : IntKind.i64.wrap (BitVec.ofInt IntKind.i64.bits i &&& BitVec.ofInt IntKind.i64.bits 63).toNat = i := by
  have key : ∀ n : Fin 64, IntKind.i64.wrap (BitVec.ofInt IntKind.i64.bits ((n.val : Nat) : Int) &&& BitVec.ofInt IntKind.i64.bits 63).toNat = ((n.val : Nat) : Int) := by decide
  have := key ⟨i.toNat, by omega⟩
  simpa [Int.toNat_of_nonneg h0] using this
theorem uw {i : Int} (h0 : 0 ≤ i) (h1 : i < 64) : IntKind.u64.wrap i = i := by
  have key : ∀ n : Fin 64, IntKind.u64.wrap ((n.val : Nat) : Int) = ((n.val : Nat) : Int) := by decide
  have := key ⟨i.toNat, by omega⟩
  simpa [Int.toNat_of_nonneg h0] using this

theorem set_spec (w i : Int) (h0 : 0 ≤ i) (h1 : i < 64) : SCall Try.prog 26 [.own 0 1, .lit (.int .i64 i)] (wH w) (fun r h' => r = .tup [] ∧ h' = wH (setW w i)) := by
  refine SCall_introC Try.func26 rfl Try.ntmps26 (rs := []) rfl (by simp) (N := 1) rfl ?_
  have a1 : ¬ (6 : Int) < 0 := by decide
  have a2 := shr6 h0 h1
  have a3 := and63 h0 h1
  have a5 : (0 : Int).toNat = 0 := rfl
  have a6 : (0 : Int) < ((1 : Nat) : Int) := by decide
  have a7 : ¬ i < 0 := by omega
  have a8 := uw h0 h1
  simp only [Xaa, Xab, Xac, Xad, Xae, Xaf, Xag, Xah, Xai, Xaj, Xak, Xal, Xam, Xan, Xao, Xap, Xaq, Xar, Xas, Xat, Xau, Xav, Xaw, Xax, Xay, Xaz, Xba, Xbb, awl, Xbc, Xbd, Xbe, Xbf, Xbg, Xbh, Xbi, Xbj, Xbk, Xbl, Xbm, Xbn, Xbo, Xbp, Xbq, ne_eq, srcRows, awo, aggEq, eqF, litEq, andO, qwl, qwo, qOp, Xbr, Xbs, Xbt, lop, Yaa, Yab, Xbu, Xbv, Xbw, oneK, Xbx, Xby, Xbz, Xca, Xcb, Xcc, Xcd, Xce, Xcf, Xcg, Xch, stepOp, Xci, Xcj, Xck, pairO, pureOp, heapOp, entry, slotsOf, ev, evL, evP, evO, lk, up, St.put, St.drop, constAV, cellAV, cellsAV, plain, binV, intBin, strBin, guardBit, boolOf, fnOf, intOfAV, bound, resOf, retV, moved, rowOf, valAt, Kd.agg, AV.cells, splice, places, fillAV, rowsFill, Hp.none, Yac, Yad, Yae, Yaf, ↓reduceIte, reduceCtorEq, Nat.reduceLT, Nat.reduceEqDiff, Nat.reduceAdd, Nat.reduceLeDiff, Nat.reducePow, Nat.reduceMul, Yay, Yaz, Yag, Yah, Yai, Yaj, Yak, Yal, Yam, Yan, Yao, Yap, Yaq, Yar, Yas, Yat, Yau, Yav, Yaw, Yax, Ybc, Ybd, Yba, Ybb, Yzz, tyW, wH, wT, a1, a2, a3, a5, a6, a7, a8, Int.le_refl, if_false, splice, List.take_zero, List.set_cons_zero]
  refine ⟨_, St.wk.cp (St.wk.refl _), ?_⟩
  simp only [Xaa, Xab, Xac, Xad, Xae, Xaf, Xag, Xah, Xai, Xaj, Xak, Xal, Xam, Xan, Xao, Xap, Xaq, Xar, Xas, Xat, Xau, Xav, Xaw, Xax, Xay, Xaz, Xba, Xbb, awl, Xbc, Xbd, Xbe, Xbf, Xbg, Xbh, Xbi, Xbj, Xbk, Xbl, Xbm, Xbn, Xbo, Xbp, Xbq, ne_eq, srcRows, awo, aggEq, eqF, litEq, andO, qwl, qwo, qOp, Xbr, Xbs, Xbt, lop, Yaa, Yab, Xbu, Xbv, Xbw, oneK, Xbx, Xby, Xbz, Xca, Xcb, Xcc, Xcd, Xce, Xcf, Xcg, Xch, stepOp, Xci, Xcj, Xck, pairO, pureOp, heapOp, entry, slotsOf, ev, evL, evP, evO, lk, up, St.put, St.drop, constAV, cellAV, cellsAV, plain, binV, intBin, strBin, guardBit, boolOf, fnOf, intOfAV, bound, resOf, retV, moved, rowOf, valAt, Kd.agg, AV.cells, splice, places, fillAV, rowsFill, Hp.none, Yac, Yad, Yae, Yaf, ↓reduceIte, reduceCtorEq, Nat.reduceLT, Nat.reduceEqDiff, Nat.reduceAdd, Nat.reduceLeDiff, Nat.reducePow, Nat.reduceMul, Yay, Yaz, Yag, Yah, Yai, Yaj, Yak, Yal, Yam, Yan, Yao, Yap, Yaq, Yar, Yas, Yat, Yau, Yav, Yaw, Yax, Ybc, Ybd, Yba, Ybb, Yzz, tyW]
  rfl
theorem get_spec (w i : Int) (h0 : 0 ≤ i) (h1 : i < 64) : SCall Try.prog 37 [.own 0 1, .lit (.int .i64 i)] (wH w) (fun r h' => r = .lit (.bool (getW w i)) ∧ h' = wH w) := by
  refine SCall_introC Try.func37 rfl Try.ntmps37 (rs := [.tmp 4]) rfl (by simp) (N := 1) rfl ?_
  have a1 : ¬ (6 : Int) < 0 := by decide
  have a2 := shr6 h0 h1
  have a3 := and63 h0 h1
  have a5 : (0 : Int).toNat = 0 := rfl
  have a6 : (0 : Int) < ((1 : Nat) : Int) := by decide
  have a7 : ¬ i < 0 := by omega
  have a8 := uw h0 h1
  simp only [Xaa, Xab, Xac, Xad, Xae, Xaf, Xag, Xah, Xai, Xaj, Xak, Xal, Xam, Xan, Xao, Xap, Xaq, Xar, Xas, Xat, Xau, Xav, Xaw, Xax, Xay, Xaz, Xba, Xbb, awl, Xbc, Xbd, Xbe, Xbf, Xbg, Xbh, Xbi, Xbj, Xbk, Xbl, Xbm, Xbn, Xbo, Xbp, Xbq, ne_eq, srcRows, awo, aggEq, eqF, litEq, andO, qwl, qwo, qOp, Xbr, Xbs, Xbt, lop, Yaa, Yab, Xbu, Xbv, Xbw, oneK, Xbx, Xby, Xbz, Xca, Xcb, Xcc, Xcd, Xce, Xcf, Xcg, Xch, stepOp, Xci, Xcj, Xck, pairO, pureOp, heapOp, entry, slotsOf, ev, evL, evP, evO, lk, up, St.put, St.drop, constAV, cellAV, cellsAV, plain, binV, intBin, strBin, guardBit, boolOf, fnOf, intOfAV, bound, resOf, retV, moved, rowOf, valAt, Kd.agg, AV.cells, splice, places, fillAV, rowsFill, Hp.none, Yac, Yad, Yae, Yaf, ↓reduceIte, reduceCtorEq, Nat.reduceLT, Nat.reduceEqDiff, Nat.reduceAdd, Nat.reduceLeDiff, Nat.reducePow, Nat.reduceMul, Yay, Yaz, Yag, Yah, Yai, Yaj, Yak, Yal, Yam, Yan, Yao, Yap, Yaq, Yar, Yas, Yat, Yau, Yav, Yaw, Yax, Ybc, Ybd, Yba, Ybb, Yzz, tyW, wH, wT, a1, a2, a3, a5, a6, a7, a8, Int.le_refl, if_false, splice, List.take_zero, List.set_cons_zero]
  exact ret1 4 (wH_own w) rfl (Nat.le_refl 1) rfl (.pure (.lit _)) (by simp [wH]) (by simp [wH, wT, lk])

/-- A row of bits, in any heap. -/
theorem w_sub {f : Nat} {w w' : Int} {pre post : List AV} (hpre : ∀ a ∈ pre, Ab.Pure a) (hpost : ∀ a ∈ post, Ab.Pure a) {r : AV} (hr : Ab.Pure r)
    (hc : SCall Try.prog f (pre ++ .own 0 1 :: post) (wH w) fun r' h' => r' = r ∧ h' = wH w') {H : Hp} {t : Nat} (hk : lk H.toks t = some (wT w)) (ht : t < H.nx) :
    SCall Try.prog f (pre ++ .own t 1 :: post) H fun r' h' => r' = r ∧ h' = ⟨H.boxes, up H.toks t (wT w'), H.nx⟩ := by
  have hle : ∀ i, i < (wH w).nx → i < [t].length := fun i hi => hi
  refine SCall.sub (hs := wH w) (rho [t]) (fun i j hi hj q => rho_inj (by simp) i j (hle i hi) (hle j hj) q) (fun i hi => rho_lt (by simp; exact ht) i (hle i hi))
    (.append rfl (.pure hpre) (.cons (.own (by show 0 < 1; decide) rfl) (.pure hpost))) alln (allc ⟨by show 0 < 1; decide, _, hk, rfl, rfl, .pure (by simp [wT, Pure.lit])⟩ alln) hc ?_
  rintro r' h' ⟨rfl, rfl⟩ _
  refine ⟨_, ⟨H.boxes, up H.toks t (wT w'), H.nx⟩, 0, Nat.le_refl _, rfl, .pure hr, fun i cs' e' => .inr ⟨e', fun j c hj => by cases hj⟩, fun id k' e' => ?_, rfl, rfl⟩
  have e' : lk (up H.toks t (wT w')) id = some k' := e'
  rw [lk_up] at e'
  by_cases hid : t = id
  · subst hid
    simp only [if_true, hk, Option.map_some, Option.some.injEq] at e'
    subst e'
    exact .inl ⟨0, _, by show 0 < 1; decide, by simp only [ren]; rfl, rfl, rfl, rfl, .pure (by simp [wT, Pure.lit])⟩
  · rw [if_neg hid] at e'
    refine .inr ⟨e', fun i hi q => ?_⟩
    match i, hle i hi, q with
    | 0, _, q => exact hid q
theorem set_at (w i : Int) (h0 : 0 ≤ i) (h1 : i < 64) {H : Hp} {t : Nat} (hk : lk H.toks t = some (wT w)) (ht : t < H.nx) :
    SCall Try.prog 26 [.own t 1, .lit (.int .i64 i)] H fun r' h' => r' = .tup [] ∧ h' = ⟨H.boxes, up H.toks t (wT (setW w i)), H.nx⟩ :=
  w_sub (pre := []) (post := [.lit (.int .i64 i)]) alln (allc (.lit _) alln) (.tup alln) (set_spec w i h0 h1) hk ht
theorem get_at (w i : Int) (h0 : 0 ≤ i) (h1 : i < 64) {H : Hp} {t : Nat} (hk : lk H.toks t = some (wT w)) (ht : t < H.nx) (hb : lk H.boxes t = none) : QCall Try.prog 37 [.own t 1, .lit (.int .i64 i)] H (.lit (.bool (getW w i))) := by
  refine QCall.sub (hs := wH w) (r0 := .lit (.bool (getW w i))) (av := [.own 0 1, .lit (.int .i64 i)]) [t] rfl (by simp) (by simp; exact ht) (.cons (.own (by show 0 < 1; decide) rfl) (.cons (.pure (.lit _)) .nil)) alln (allc ⟨by show 0 < 1; decide, _, hk, rfl, rfl, .pure (by simp [wT, Pure.lit])⟩ alln) ?_ (get_spec w i h0 h1) (.pure (.lit _))
  intro i hi hn
  have hi : i < 1 := hi
  match i, hi with
  | 0, _ => simp [wH, lk] at hn

theorem row_spec (n : Int) (h0 : 0 ≤ n) (h1 : n < 64) : SCall Try.prog 23 [.lit (.int .i64 n)] .none (fun r h' => r = .own 0 1 ∧ h' = wH 0) := by
  refine SCall_introC Try.func23 rfl Try.ntmps23 (rs := [.tmp 2]) rfl (by simp) (N := 0) rfl ?_
  have a1 : ¬ (6 : Int) < 0 := by decide
  have a2 := shr6 h0 h1
  have b1 : IntKind.i64.wrap (0 + 1) = 1 := by decide
  have b2 : (0 : Int) ≤ 1 := by decide
  have b3 : (1 : Int) ≤ 9223372036854775807 := by decide
  have b4 : ((8 : Nat) : Int) * 1 ≤ 281474976710656 := by decide
  have b5 : (1 : Int).toNat = 1 := rfl
  simp only [Xaa, Xab, Xac, Xad, Xae, Xaf, Xag, Xah, Xai, Xaj, Xak, Xal, Xam, Xan, Xao, Xap, Xaq, Xar, Xas, Xat, Xau, Xav, Xaw, Xax, Xay, Xaz, Xba, Xbb, awl, Xbc, Xbd, Xbe, Xbf, Xbg, Xbh, Xbi, Xbj, Xbk, Xbl, Xbm, Xbn, Xbo, Xbp, Xbq, ne_eq, srcRows, awo, aggEq, eqF, litEq, andO, qwl, qwo, qOp, Xbr, Xbs, Xbt, lop, Yaa, Yab, Xbu, Xbv, Xbw, oneK, Xbx, Xby, Xbz, Xca, Xcb, Xcc, Xcd, Xce, Xcf, Xcg, Xch, stepOp, Xci, Xcj, Xck, pairO, pureOp, heapOp, entry, slotsOf, ev, evL, evP, evO, lk, up, St.put, St.drop, constAV, cellAV, cellsAV, plain, binV, intBin, strBin, guardBit, boolOf, fnOf, intOfAV, bound, resOf, retV, moved, rowOf, valAt, Kd.agg, AV.cells, splice, places, fillAV, rowsFill, Hp.none, Yac, Yad, Yae, Yaf, ↓reduceIte, reduceCtorEq, Nat.reduceLT, Nat.reduceEqDiff, Nat.reduceAdd, Nat.reduceLeDiff, Nat.reducePow, Nat.reduceMul, Yay, Yaz, Yag, Yah, Yai, Yaj, Yak, Yal, Yam, Yan, Yao, Yap, Yaq, Yar, Yas, Yat, Yau, Yav, Yaw, Yax, Ybc, Ybd, Yba, Ybb, Yzz, tyW, a1, a2, if_false, b1, b2, b3, b4, b5, Int.le_refl, List.replicate_one]
  refine ⟨_, St.wk.cp (St.wk.refl _), ?_⟩
  simp only [Xaa, Xab, Xac, Xad, Xae, Xaf, Xag, Xah, Xai, Xaj, Xak, Xal, Xam, Xan, Xao, Xap, Xaq, Xar, Xas, Xat, Xau, Xav, Xaw, Xax, Xay, Xaz, Xba, Xbb, awl, Xbc, Xbd, Xbe, Xbf, Xbg, Xbh, Xbi, Xbj, Xbk, Xbl, Xbm, Xbn, Xbo, Xbp, Xbq, ne_eq, srcRows, awo, aggEq, eqF, litEq, andO, qwl, qwo, qOp, Xbr, Xbs, Xbt, lop, Yaa, Yab, Xbu, Xbv, Xbw, oneK, Xbx, Xby, Xbz, Xca, Xcb, Xcc, Xcd, Xce, Xcf, Xcg, Xch, stepOp, Xci, Xcj, Xck, pairO, pureOp, heapOp, entry, slotsOf, ev, evL, evP, evO, lk, up, St.put, St.drop, constAV, cellAV, cellsAV, plain, binV, intBin, strBin, guardBit, boolOf, fnOf, intOfAV, bound, resOf, retV, moved, rowOf, valAt, Kd.agg, AV.cells, splice, places, fillAV, rowsFill, Hp.none, Yac, Yad, Yae, Yaf, ↓reduceIte, reduceCtorEq, Nat.reduceLT, Nat.reduceEqDiff, Nat.reduceAdd, Nat.reduceLeDiff, Nat.reducePow, Nat.reduceMul, Yay, Yaz, Yag, Yah, Yai, Yaj, Yak, Yal, Yam, Yan, Yao, Yap, Yaq, Yar, Yas, Yat, Yau, Yav, Yaw, Yax, Ybc, Ybd, Yba, Ybb, Yzz, tyW]
  rfl
end Go.Proofs.Ytogdlomemaoajaa
