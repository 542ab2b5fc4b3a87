/- Contracts: all rules asked until nothing changes: the program's answer. Conditions: those that each theorem names. -/
import Derived.Test.YtogdlomemaoajaaNul3
namespace Go.Proofs.Ytogdlomemaoajaa
open Go.Ab
set_option linter.unusedSimpArgs false
set_option linter.unusedVariables false
set_option maxRecDepth 20000

section
variable (ask : List Bool → Bool → El → Bool) (rs : List Rl)
def rowB (kn : List Bool) (r : Rl) : Bool := r.alts.any fun a => ask kn (capN r.name) a.e
def stp (q : List Bool × Bool) (i : Nat) : List Bool × Bool :=
  match rs[i]? with
  | some r => if !(q.1.getD i false) && rowB ask q.1 r then (q.1.set i true, true) else q
  | none => q
def pas (k : Nat) (kn : List Bool) : List Bool × Bool := (List.range k).foldl (stp ask rs) (kn, false)
def itr : Nat → List Bool → List Bool
  | 0, kn => kn
  | n + 1, kn => itr n (pas ask rs rs.length kn).1
def fixB : List Bool := itr ask rs rs.length (List.replicate rs.length false)
def cf (kn : List Bool) : Nat := kn.countP (!·)
end
section
variable {ask : List Bool → Bool → El → Bool} {rs : List Rl}
theorem pas_zero (kn : List Bool) : pas ask rs 0 kn = (kn, false) := rfl
theorem pas_succ (k : Nat) (kn : List Bool) : pas ask rs (k + 1) kn = stp ask rs (pas ask rs k kn) k := by simp [pas, List.range_succ]
theorem stp_len (q : List Bool × Bool) (i : Nat) : (stp ask rs q i).1.length = q.1.length := by
  unfold stp
  split
  · split <;> simp
  · rfl
theorem pas_len (k : Nat) (kn : List Bool) : (pas ask rs k kn).1.length = kn.length := by
  induction k with
  | zero => rfl
  | succ k ih => rw [pas_succ, stp_len, ih]
theorem cf_set : ∀ (kn : List Bool) (i : Nat), i < kn.length → kn.getD i false = false → cf (kn.set i true) + 1 = cf kn
  | b :: l, 0, _, h => by simp at h; subst h; simp [cf]
  | b :: l, i + 1, h1, h2 => by
    have ih := cf_set l i (by simpa using h1) (by simpa using h2)
    simp only [cf, List.set_cons_succ, List.countP_cons] at ih ⊢
    omega
  | [], i, h, _ => by simp at h
theorem pas_flag (k : Nat) (kn : List Bool) (hk : kn.length = rs.length) : ((pas ask rs k kn).2 = false ∧ (pas ask rs k kn).1 = kn) ∨ ((pas ask rs k kn).2 = true ∧ cf (pas ask rs k kn).1 < cf kn) := by
  induction k with
  | zero => exact .inl ⟨rfl, rfl⟩
  | succ k ih =>
    have hlen := pas_len (ask := ask) (rs := rs) k kn
    rw [pas_succ]
    generalize pas ask rs k kn = q at ih hlen
    unfold stp
    split
    · rename_i r hr
      split
      · rename_i hc
        simp only [Bool.and_eq_true, Bool.not_eq_true'] at hc
        have hlt : k < q.1.length := by rw [hlen, hk]; exact (List.getElem?_eq_some_iff.1 hr).1
        have := cf_set q.1 k hlt hc.1
        rcases ih with ⟨_, h2⟩ | ⟨_, h2⟩
        · rw [h2] at this; exact .inr ⟨rfl, by rw [h2]; simp only; omega⟩
        · exact .inr ⟨rfl, by simp only; omega⟩
      · exact ih
    · exact ih
theorem itr_add (a b : Nat) (kn : List Bool) : itr ask rs (a + b) kn = itr ask rs b (itr ask rs a kn) := by
  induction a generalizing kn with
  | zero => simp [itr]
  | succ a ih => rw [Nat.succ_add]; simp only [itr]; exact ih _
theorem itr_fix {kn : List Bool} (h : (pas ask rs rs.length kn).1 = kn) (n : Nat) : itr ask rs n kn = kn := by
  induction n with
  | zero => rfl
  | succ n ih => simp only [itr, h, ih]
theorem fix_of {a : Nat} {kn : List Bool} (ha : a ≤ rs.length) (he : kn = itr ask rs a (List.replicate rs.length false)) (h : (pas ask rs rs.length kn).1 = kn) : fixB ask rs = kn := by
  have : rs.length = a + (rs.length - a) := by omega
  unfold fixB
  generalize hn : List.replicate rs.length false = k0 at he
  rw [this, itr_add, ← he]
  exact itr_fix h _
theorem itr_snoc (a : Nat) (kn : List Bool) : itr ask rs (a + 1) kn = (pas ask rs rs.length (itr ask rs a kn)).1 := by rw [itr_add]; rfl
theorem itr_len (a : Nat) (kn : List Bool) : (itr ask rs a kn).length = kn.length := by
  induction a generalizing kn with
  | zero => rfl
  | succ a ih => simp only [itr]; rw [ih, pas_len]
end

def fixH (g : Gr) (f : Nat) (kn : List Bool) (lx : Bool) : Hp := ⟨[(0, encGr g), (1, [.fn (.func f) [] []]), (3, askC g 2 g.rules.length lx), (4, [.ptr 3 0])], [(2, knT kn)], 5⟩

theorem fixH_own (g : Gr) (f : Nat) (kn : List Bool) (lx : Bool) : Own (fixH g f kn lx) :=
  ⟨allc ⟨by show 0 < 5; decide, .pure (pure_encGr g)⟩ (allc ⟨by show 1 < 5; decide, .pure (by simp; exact .fn (by simp) (by simp))⟩ (allc ⟨by show 3 < 5; decide, askC_rn g 2 2 _ _ (by show 2 < 5; decide) rfl⟩ (allc ⟨by show 4 < 5; decide, .cons (.ptr (by show 3 < 5; decide) rfl) .nil⟩ alln))),
   allc ⟨by show 2 < 5; decide, knT_rn kn⟩ alln⟩
def cbH (g : Gr) (f : Nat) (kn : List Bool) (lx : Bool) : Hp := ⟨[(1, [.fn (.func f) [] []]), (3, askC g 2 kn.length lx), (4, [.ptr 3 0])], [(2, knT kn)], 5⟩
theorem cbH_own (g : Gr) (f : Nat) (kn : List Bool) (lx : Bool) : Own (cbH g f kn lx) :=
  ⟨allc ⟨by show 1 < 5; decide, .pure (by simp; exact .fn (by simp) (by simp))⟩ (allc ⟨by show 3 < 5; decide, askC_rn g 2 2 _ _ (by show 2 < 5; decide) rfl⟩ (allc ⟨by show 4 < 5; decide, .cons (.ptr (by show 3 < 5; decide) rfl) .nil⟩ alln)),
   allc ⟨by show 2 < 5; decide, knT_rn kn⟩ alln⟩

/-- The call back of a rule's alternatives. -/
theorem fixed1_spec {g : Gr} {f : Nat} (hcf : Callable Try.prog f) {kn : List Bool} {lx b : Bool} {a : Al} (hc : QCall Try.prog f [.ptr 0 0, .agg (encE a.e)] (askH g kn lx) (.lit (.bool b))) {H : Hp} (h1 : lk H.boxes 1 = some [.fn (.func f) [] []])
    (h3 : lk H.boxes 3 = some (askC g 2 kn.length lx)) (h4 : lk H.boxes 4 = some [.ptr 3 0]) (t2 : lk H.toks 2 = some (knT kn)) (hn : 5 ≤ H.nx) (t0 : lk H.toks 0 = none) (t1 : lk H.toks 1 = none) (t3 : lk H.toks 3 = none) (t4 : lk H.toks 4 = none) :
    QCall Try.prog 29 ([] ++ [.agg (encA a)] ++ [.ptr 1 0, .ptr 4 0]) H (.lit (.bool b)) := by
  refine QCall.sub (hs := cbH g f kn lx) (r0 := .lit (.bool b)) (av := [.agg (encA a), .ptr 1 0, .ptr 4 0]) [0, 1, 2, 3, 4] rfl (by decide) (by simp; omega) (.cons (.pure (pureA a)) (.cons (.ptr (by show 1 < 5; decide) rfl) (.cons (.ptr (by show 4 < 5; decide) rfl) .nil)))
    (allc ⟨by show 1 < 5; decide, _, h1, .pure (by simp; exact .fn (by simp) (by simp))⟩ (allc ⟨by show 3 < 5; decide, _, h3, askC_rn g 2 2 _ _ (by show 2 < 5; decide) rfl⟩ (allc ⟨by show 4 < 5; decide, _, h4, .cons (.ptr (by show 3 < 5; decide) rfl) .nil⟩ alln)))
    (allc ⟨by show 2 < 5; decide, _, t2, rfl, rfl, knT_rn kn⟩ alln) ?_ ?_ (.pure (.lit _))
  · intro i hi hnn
    have hi : i < 5 := hi
    match i, hi with
    | 0, _ => exact t0
    | 1, _ => exact t1
    | 2, _ => simp [cbH, lk] at hnn
    | 3, _ => exact t3
    | 4, _ => exact t4
  · refine SCall_introC Try.func29 rfl Try.ntmps29 (rs := [.tmp 4]) rfl (by simp) (N := 5) rfl ?_
    rcases a with ⟨⟨op, name, set, lz, ⟨gop, gn, gname, gkids⟩, kids, level, place⟩, right, cmds, pl⟩
    simp only [Xaa, Xab, Xac, Xad, Xae, Xaf, Xag, Xah, Xai, Xaj, Xak, Xal, Xam, Xan, Xao, Xap, Xaq, Xar, Xas, Xat, Xau, Xav, Xaw, Xax, Xay, Xaz, Xba, Xbb, awl, Xbc, Xbd, Xbe, Xbf, Xbg, Xbh, Xbi, Xbj, Xbk, Xbl, Xbm, Xbn, Xbo, Xbp, Xbq, ne_eq, srcRows, awo, aggEq, eqF, litEq, andO, qwl, qwo, qOp, Xbr, Xbs, Xbt, lop, Yaa, Yab, Xbu, Xbv, Xbw, oneK, Xbx, Xby, Xbz, Xca, Xcb, Xcc, Xcd, Xce, Xcf, Xcg, Xch, stepOp, Xci, Xcj, Xck, pairO, pureOp, heapOp, entry, slotsOf, ev, evL, evP, evO, lk, up, St.put, St.drop, constAV, cellAV, cellsAV, plain, binV, intBin, strBin, guardBit, boolOf, fnOf, intOfAV, bound, resOf, retV, moved, rowOf, valAt, Kd.agg, AV.cells, splice, places, fillAV, rowsFill, Hp.none, Yac, Yad, Yae, Yaf, ↓reduceIte, reduceCtorEq, Nat.reduceLT, Nat.reduceEqDiff, Nat.reduceAdd, Nat.reduceLeDiff, Nat.reducePow, Nat.reduceMul, Yay, Yaz, Yag, Yah, Yai, Yaj, Yak, Yal, Yam, Yan, Yao, Yap, Yaq, Yar, Yas, Yat, Yau, Yav, Yaw, Yax, Ybc, Ybd, Yba, Ybb, Yzz, tyW, cbH, encA]
    refine CallK_of hcf (ask_sub (pureE _) (.lit _) 3 2 rfl rfl (by decide) (by show 3 < 6; decide) (by show 2 < 6; decide) rfl hc) ?_
    rintro r h' ⟨rfl, rfl⟩
    simp only [Xaa, Xab, Xac, Xad, Xae, Xaf, Xag, Xah, Xai, Xaj, Xak, Xal, Xam, Xan, Xao, Xap, Xaq, Xar, Xas, Xat, Xau, Xav, Xaw, Xax, Xay, Xaz, Xba, Xbb, awl, Xbc, Xbd, Xbe, Xbf, Xbg, Xbh, Xbi, Xbj, Xbk, Xbl, Xbm, Xbn, Xbo, Xbp, Xbq, ne_eq, srcRows, awo, aggEq, eqF, litEq, andO, qwl, qwo, qOp, Xbr, Xbs, Xbt, lop, Yaa, Yab, Xbu, Xbv, Xbw, oneK, Xbx, Xby, Xbz, Xca, Xcb, Xcc, Xcd, Xce, Xcf, Xcg, Xch, stepOp, Xci, Xcj, Xck, pairO, pureOp, heapOp, entry, slotsOf, ev, evL, evP, evO, lk, up, St.put, St.drop, constAV, cellAV, cellsAV, plain, binV, intBin, strBin, guardBit, boolOf, fnOf, intOfAV, bound, resOf, retV, moved, rowOf, valAt, Kd.agg, AV.cells, splice, places, fillAV, rowsFill, Hp.none, Yac, Yad, Yae, Yaf, ↓reduceIte, reduceCtorEq, Nat.reduceLT, Nat.reduceEqDiff, Nat.reduceAdd, Nat.reduceLeDiff, Nat.reducePow, Nat.reduceMul, Yay, Yaz, Yag, Yah, Yai, Yaj, Yak, Yal, Yam, Yan, Yao, Yap, Yaq, Yar, Yas, Yat, Yau, Yav, Yaw, Yax, Ybc, Ybd, Yba, Ybb, Yzz, tyW]
    exact ret1 4 (cbH_own g f kn lx) rfl (by show 5 ≤ 6; decide) rfl (.pure (.lit _)) (by simp [cbH, lk]) (by simp [cbH, lk])

theorem fixed_spec (ask : List Bool → Bool → El → Bool) (f : Nat) (hcf : Callable Try.prog f) (g : Gr) (hg : grsz g ≤ 1000000000)
    (hask : ∀ kn lx e, kn.length = g.rules.length → esz e ≤ 1000000000 → QCall Try.prog f [.ptr 0 0, .agg (encE e)] (askH g kn lx) (.lit (.bool (ask kn lx e)))) :
    SCall Try.prog 17 [.agg (encGr g), .fn (.func f) [] []] .none fun r h' => r = .own 0 g.rules.length ∧ h' = knH (fixB ask g.rules) := by
  have hlen : g.rules.length ≤ 1000000000 := by
    have := sum_len rsz rsz_pos g.rules
    simp only [grsz] at hg; omega
  refine SCall_introC Try.func17 rfl Try.ntmps17 (rs := [.tmp 4]) rfl (by simp) (N := 0) rfl ?_
  simp only [Xaa, Xab, Xac, Xad, Xae, Xaf, Xag, Xah, Xai, Xaj, Xak, Xal, Xam, Xan, Xao, Xap, Xaq, Xar, Xas, Xat, Xau, Xav, Xaw, Xax, Xay, Xaz, Xba, Xbb, awl, Xbc, Xbd, Xbe, Xbf, Xbg, Xbh, Xbi, Xbj, Xbk, Xbl, Xbm, Xbn, Xbo, Xbp, Xbq, ne_eq, srcRows, awo, aggEq, eqF, litEq, andO, qwl, qwo, qOp, Xbr, Xbs, Xbt, lop, Yaa, Yab, Xbu, Xbv, Xbw, oneK, Xbx, Xby, Xbz, Xca, Xcb, Xcc, Xcd, Xce, Xcf, Xcg, Xch, stepOp, Xci, Xcj, Xck, pairO, pureOp, heapOp, entry, slotsOf, ev, evL, evP, evO, lk, up, St.put, St.drop, constAV, cellAV, cellsAV, plain, binV, intBin, strBin, guardBit, boolOf, fnOf, intOfAV, bound, resOf, retV, moved, rowOf, valAt, Kd.agg, AV.cells, splice, places, fillAV, rowsFill, Hp.none, Yac, Yad, Yae, Yaf, ↓reduceIte, reduceCtorEq, Nat.reduceLT, Nat.reduceEqDiff, Nat.reduceAdd, Nat.reduceLeDiff, Nat.reducePow, Nat.reduceMul, Yay, Yaz, Yag, Yah, Yai, Yaj, Yak, Yal, Yam, Yan, Yao, Yap, Yaq, Yar, Yas, Yat, Yau, Yav, Yaw, Yax, Ybc, Ybd, Yba, Ybb, Yzz, tyW]
  refine aw_scope_cutC 0 5 rfl rfl (by show 2 ≤ 5; decide) (fun m σ => ∃ a kn lx, kn = itr ask g.rules a (List.replicate g.rules.length false) ∧ a + m ≤ g.rules.length ∧ m = cf kn ∧ kn.length = g.rules.length ∧ σ = ⟨[(2, .ptr 0 0), (3, .ptr 1 0), (5, .ptr 4 0)], fixH g f kn lx, 56⟩) ?_ g.rules.length ?_ ?_
  · rintro m σ ⟨a, kn, lx, _, _, _, _, rfl⟩; rfl
  · simp only [Xaa, Xab, Xac, Xad, Xae, Xaf, Xag, Xah, Xai, Xaj, Xak, Xal, Xam, Xan, Xao, Xap, Xaq, Xar, Xas, Xat, Xau, Xav, Xaw, Xax, Xay, Xaz, Xba, Xbb, awl, Xbc, Xbd, Xbe, Xbf, Xbg, Xbh, Xbi, Xbj, Xbk, Xbl, Xbm, Xbn, Xbo, Xbp, Xbq, ne_eq, srcRows, awo, aggEq, eqF, litEq, andO, qwl, qwo, qOp, Xbr, Xbs, Xbt, lop, Yaa, Yab, Xbu, Xbv, Xbw, oneK, Xbx, Xby, Xbz, Xca, Xcb, Xcc, Xcd, Xce, Xcf, Xcg, Xch, stepOp, Xci, Xcj, Xck, pairO, pureOp, heapOp, entry, slotsOf, ev, evL, evP, evO, lk, up, St.put, St.drop, constAV, cellAV, cellsAV, plain, binV, intBin, strBin, guardBit, boolOf, fnOf, intOfAV, bound, resOf, retV, moved, rowOf, valAt, Kd.agg, AV.cells, splice, places, fillAV, rowsFill, Hp.none, Yac, Yad, Yae, Yaf, ↓reduceIte, reduceCtorEq, Nat.reduceLT, Nat.reduceEqDiff, Nat.reduceAdd, Nat.reduceLeDiff, Nat.reducePow, Nat.reduceMul, Yay, Yaz, Yag, Yah, Yai, Yaj, Yak, Yal, Yam, Yan, Yao, Yap, Yaq, Yar, Yas, Yat, Yau, Yav, Yaw, Yax, Ybc, Ybd, Yba, Ybb, Yzz, tyW]
    refine aw_drawC (n := 56) (σ' := ⟨[(2, .ptr 0 0), (3, .ptr 1 0), (5, .ptr 4 0)], fixH g f (List.replicate g.rules.length false) false, 56⟩) 2 0
      (.alt 0 (.alt 1 (.alt 2 (.alt 3 (.alt 4 (.alt 5 (.alt 6 (.alt 7 (.alt 8 .leaf .nil) .nil) (.alt 7 (.alt 6 (.alt 8 .leaf .nil) .nil) .nil)) (.alt 7 (.alt 5 (.alt 6 (.alt 8 .leaf .nil) .nil) .nil) .nil)) (.alt 7 (.alt 4 (.alt 5 (.alt 6 (.alt 8 .leaf .nil) .nil) .nil) .nil) .nil)) (.alt 7 (.alt 3 (.alt 4 (.alt 5 (.alt 6 (.alt 8 .leaf .nil) .nil) .nil) .nil) .nil) .nil)) (.alt 7 (.alt 2 (.alt 3 (.alt 4 (.alt 5 (.alt 6 (.alt 8 .leaf .nil) .nil) .nil) .nil) .nil) .nil) .nil)) (.alt 7 (.alt 1 (.alt 2 (.alt 3 (.alt 4 (.alt 5 (.alt 6 (.alt 8 .leaf .nil) .nil) .nil) .nil) .nil) .nil) .nil) .nil)) (.alt 1 (.alt 0 (.alt 2 (.alt 3 (.alt 4 (.alt 5 (.alt 6 (.alt 7 (.alt 8 .leaf .nil) .nil) (.alt 7 (.alt 6 (.alt 8 .leaf .nil) .nil) .nil)) (.alt 7 (.alt 5 (.alt 6 (.alt 8 .leaf .nil) .nil) .nil) .nil)) (.alt 7 (.alt 4 (.alt 5 (.alt 6 (.alt 8 .leaf .nil) .nil) .nil) .nil) .nil)) (.alt 7 (.alt 3 (.alt 4 (.alt 5 (.alt 6 (.alt 8 .leaf .nil) .nil) .nil) .nil) .nil) .nil)) (.alt 7 (.alt 2 (.alt 3 (.alt 4 (.alt 5 (.alt 6 (.alt 8 .leaf .nil) .nil) .nil) .nil) .nil) .nil) .nil)) (.alt 2 (.alt 0 (.alt 3 (.alt 4 (.alt 5 (.alt 6 (.alt 7 (.alt 8 .leaf .nil) .nil) (.alt 7 (.alt 6 (.alt 8 .leaf .nil) .nil) .nil)) (.alt 7 (.alt 5 (.alt 6 (.alt 8 .leaf .nil) .nil) .nil) .nil)) (.alt 7 (.alt 4 (.alt 5 (.alt 6 (.alt 8 .leaf .nil) .nil) .nil) .nil) .nil)) (.alt 7 (.alt 3 (.alt 4 (.alt 5 (.alt 6 (.alt 8 .leaf .nil) .nil) .nil) .nil) .nil) .nil)) (.alt 3 (.alt 0 (.alt 4 (.alt 5 (.alt 6 (.alt 7 (.alt 8 .leaf .nil) .nil) (.alt 7 (.alt 6 (.alt 8 .leaf .nil) .nil) .nil)) (.alt 7 (.alt 5 (.alt 6 (.alt 8 .leaf .nil) .nil) .nil) .nil)) (.alt 7 (.alt 4 (.alt 5 (.alt 6 (.alt 8 .leaf .nil) .nil) .nil) .nil) .nil)) (.alt 4 (.alt 0 (.alt 5 (.alt 6 (.alt 7 (.alt 8 .leaf .nil) .nil) (.alt 7 (.alt 6 (.alt 8 .leaf .nil) .nil) .nil)) (.alt 7 (.alt 5 (.alt 6 (.alt 8 .leaf .nil) .nil) .nil) .nil)) (.alt 7 (.alt 0 (.alt 5 (.alt 6 (.alt 8 .leaf .nil) .nil) .nil) .nil) .nil)) (.alt 7 (.alt 0 (.alt 4 (.alt 5 (.alt 6 (.alt 8 .leaf .nil) .nil) .nil) .nil) (.alt 4 (.alt 0 (.alt 5 (.alt 6 (.alt 8 .leaf .nil) .nil) .nil) .nil) .nil)) .nil))) (.alt 7 (.alt 0 (.alt 3 (.alt 4 (.alt 5 (.alt 6 (.alt 8 .leaf .nil) .nil) .nil) .nil) .nil) (.alt 3 (.alt 0 (.alt 4 (.alt 5 (.alt 6 (.alt 8 .leaf .nil) .nil) .nil) .nil) (.alt 4 (.alt 0 (.alt 5 (.alt 6 (.alt 8 .leaf .nil) .nil) .nil) .nil) .nil)) .nil)) .nil))) (.alt 7 (.alt 0 (.alt 2 (.alt 3 (.alt 4 (.alt 5 (.alt 6 (.alt 8 .leaf .nil) .nil) .nil) .nil) .nil) .nil) (.alt 2 (.alt 0 (.alt 3 (.alt 4 (.alt 5 (.alt 6 (.alt 8 .leaf .nil) .nil) .nil) .nil) .nil) (.alt 3 (.alt 0 (.alt 4 (.alt 5 (.alt 6 (.alt 8 .leaf .nil) .nil) .nil) .nil) (.alt 4 (.alt 0 (.alt 5 (.alt 6 (.alt 8 .leaf .nil) .nil) .nil) .nil) .nil)) .nil)) .nil)) .nil))) (.alt 7 (.alt 0 (.alt 1 (.alt 2 (.alt 3 (.alt 4 (.alt 5 (.alt 6 (.alt 8 .leaf .nil) .nil) .nil) .nil) .nil) .nil) .nil) (.alt 1 (.alt 0 (.alt 2 (.alt 3 (.alt 4 (.alt 5 (.alt 6 (.alt 8 .leaf .nil) .nil) .nil) .nil) .nil) .nil) (.alt 2 (.alt 0 (.alt 3 (.alt 4 (.alt 5 (.alt 6 (.alt 8 .leaf .nil) .nil) .nil) .nil) .nil) (.alt 3 (.alt 0 (.alt 4 (.alt 5 (.alt 6 (.alt 8 .leaf .nil) .nil) .nil) .nil) (.alt 4 (.alt 0 (.alt 5 (.alt 6 (.alt 8 .leaf .nil) .nil) .nil) .nil) .nil)) .nil)) .nil)) .nil)) .nil))) rfl (by decide) (by decide) mixed (by kernel_rfl) (by decide) ?_ ?_
    · have hnn : (0 : Int) ≤ (g.rules.length : Int) := Int.natCast_nonneg _
      have c1 : (g.rules.length : Int) ≤ 9223372036854775807 := by omega
      have c2 : ((1 : Nat) : Int) * (g.rules.length : Int) ≤ 281474976710656 := by omega
      have hrep : List.replicate g.rules.length [AV.lit (.bool false)] = (List.replicate g.rules.length false).map bit := by simp [bit]
      simp only [Xaa, Xab, Xac, Xad, Xae, Xaf, Xag, Xah, Xai, Xaj, Xak, Xal, Xam, Xan, Xao, Xap, Xaq, Xar, Xas, Xat, Xau, Xav, Xaw, Xax, Xay, Xaz, Xba, Xbb, awl, Xbc, Xbd, Xbe, Xbf, Xbg, Xbh, Xbi, Xbj, Xbk, Xbl, Xbm, Xbn, Xbo, Xbp, Xbq, ne_eq, srcRows, awo, aggEq, eqF, litEq, andO, qwl, qwo, qOp, Xbr, Xbs, Xbt, lop, Yaa, Yab, Xbu, Xbv, Xbw, oneK, Xbx, Xby, Xbz, Xca, Xcb, Xcc, Xcd, Xce, Xcf, Xcg, Xch, stepOp, Xci, Xcj, Xck, pairO, pureOp, heapOp, entry, slotsOf, ev, evL, evP, evO, lk, up, St.put, St.drop, constAV, cellAV, cellsAV, plain, binV, intBin, strBin, guardBit, boolOf, fnOf, intOfAV, bound, resOf, retV, moved, rowOf, valAt, Kd.agg, AV.cells, splice, places, fillAV, rowsFill, Hp.none, Yac, Yad, Yae, Yaf, ↓reduceIte, reduceCtorEq, Nat.reduceLT, Nat.reduceEqDiff, Nat.reduceAdd, Nat.reduceLeDiff, Nat.reducePow, Nat.reduceMul, Yay, Yaz, Yag, Yah, Yai, Yaj, Yak, Yal, Yam, Yan, Yao, Yap, Yaq, Yar, Yas, Yat, Yau, Yav, Yaw, Yax, Ybc, Ybd, Yba, Ybb, Yzz, tyW, encGr, List.length_map, hnn, Int.le_refl, c1, c2, Int.toNat_natCast]
      have leaf : ∀ (l : List Nat) (i j k : Nat) (sl : List (Nat × AV)) (hp : Hp), hp.nx = 5 → l = [k, i, j] → l.Nodup → (∀ x ∈ l, 2 ≤ x ∧ x < 5) → lk sl 2 = some (.ptr 0 0) → lk sl 3 = some (.ptr 1 0) → lk sl 5 = some (.ptr j 0) → lk hp.boxes 0 = some (encGr g) → lk hp.boxes 1 = some [.fn (.func f) [] []] →
          lk hp.boxes i = some (askC g k g.rules.length false) → lk hp.boxes j = some [.ptr i 0] → lk hp.toks k = some ⟨List.replicate g.rules.length [AV.lit (.bool false)], 0, 1⟩ →
          St.cp 2 ⟨sl, hp, 56⟩ ⟨[(2, .ptr 0 0), (3, .ptr 1 0), (5, .ptr 4 0)], fixH g f (List.replicate g.rules.length false) false, 56⟩ := by
        intro l i j k sl hp hx hl hnd hin s2 s3 s5 b0 b1 b3 b4 t2
        subst hl
        exact St.cp_of 2 [k, i, j] (by rw [hx]; decide) rfl rfl hnd (by rw [hx]; exact hin) (allc ⟨_, s2, .ptr (by show 0 < 5; decide) rfl⟩ (allc ⟨_, s3, .ptr (by show 1 < 5; decide) rfl⟩ (allc ⟨_, s5, .ptr (by show 4 < 5; decide) rfl⟩ alln)))
          (allc ⟨by show 0 < 5; decide, _, b0, .pure (pure_encGr g)⟩ (allc ⟨by show 1 < 5; decide, _, b1, .pure (by simp; exact .fn (by simp) (by simp))⟩ (allc ⟨by show 3 < 5; decide, _, b3, askC_rn g 2 k _ _ (by show 2 < 5; decide) rfl⟩ (allc ⟨by show 4 < 5; decide, _, b4, .cons (.ptr (by show 3 < 5; decide) rfl) .nil⟩ alln))))
          (allc ⟨by show 2 < 5; decide, _, t2, rfl, rfl, by rw [hrep]; exact knT_rn _⟩ alln)
      and_intros
      all_goals first
        | exact leaf [2, 3, 4] 3 4 2 _ _ rfl rfl (by decide) (by decide) rfl rfl rfl rfl rfl rfl rfl rfl
        | exact leaf [2, 4, 3] 4 3 2 _ _ rfl rfl (by decide) (by decide) rfl rfl rfl rfl rfl rfl rfl rfl
        | exact leaf [3, 4, 2] 4 2 3 _ _ rfl rfl (by decide) (by decide) rfl rfl rfl rfl rfl rfl rfl rfl
    · simp only [Xaa, Xab, Xac, Xad, Xae, Xaf, Xag, Xah, Xai, Xaj, Xak, Xal, Xam, Xan, Xao, Xap, Xaq, Xar, Xas, Xat, Xau, Xav, Xaw, Xax, Xay, Xaz, Xba, Xbb, awl, Xbc, Xbd, Xbe, Xbf, Xbg, Xbh, Xbi, Xbj, Xbk, Xbl, Xbm, Xbn, Xbo, Xbp, Xbq, ne_eq, srcRows, awo, aggEq, eqF, litEq, andO, qwl, qwo, qOp, Xbr, Xbs, Xbt, lop, Yaa, Yab, Xbu, Xbv, Xbw, oneK, Xbx, Xby, Xbz, Xca, Xcb, Xcc, Xcd, Xce, Xcf, Xcg, Xch, stepOp, Xci, Xcj, Xck, pairO, pureOp, heapOp, entry, slotsOf, ev, evL, evP, evO, lk, up, St.put, St.drop, constAV, cellAV, cellsAV, plain, binV, intBin, strBin, guardBit, boolOf, fnOf, intOfAV, bound, resOf, retV, moved, rowOf, valAt, Kd.agg, AV.cells, splice, places, fillAV, rowsFill, Hp.none, Yac, Yad, Yae, Yaf, ↓reduceIte, reduceCtorEq, Nat.reduceLT, Nat.reduceEqDiff, Nat.reduceAdd, Nat.reduceLeDiff, Nat.reducePow, Nat.reduceMul, Yay, Yaz, Yag, Yah, Yai, Yaj, Yak, Yal, Yam, Yan, Yao, Yap, Yaq, Yar, Yas, Yat, Yau, Yav, Yaw, Yax, Ybc, Ybd, Yba, Ybb, Yzz, tyW]
      exact ⟨_, St.wk_slots (by simp [lk]), 0, _, false, rfl, by simp, by simp [cf, itr, List.countP_replicate], by simp [itr], rfl⟩
  · rintro m σ ⟨a, kn, lx, hkn, ha, hm, hl, rfl⟩
    simp only [Xaa, Xab, Xac, Xad, Xae, Xaf, Xag, Xah, Xai, Xaj, Xak, Xal, Xam, Xan, Xao, Xap, Xaq, Xar, Xas, Xat, Xau, Xav, Xaw, Xax, Xay, Xaz, Xba, Xbb, awl, Xbc, Xbd, Xbe, Xbf, Xbg, Xbh, Xbi, Xbj, Xbk, Xbl, Xbm, Xbn, Xbo, Xbp, Xbq, ne_eq, srcRows, awo, aggEq, eqF, litEq, andO, qwl, qwo, qOp, Xbr, Xbs, Xbt, lop, Yaa, Yab, Xbu, Xbv, Xbw, oneK, Xbx, Xby, Xbz, Xca, Xcb, Xcc, Xcd, Xce, Xcf, Xcg, Xch, stepOp, Xci, Xcj, Xck, pairO, pureOp, heapOp, entry, slotsOf, ev, evL, evP, evO, lk, up, St.put, St.drop, constAV, cellAV, cellsAV, plain, binV, intBin, strBin, guardBit, boolOf, fnOf, intOfAV, bound, resOf, retV, moved, rowOf, valAt, Kd.agg, AV.cells, splice, places, fillAV, rowsFill, Hp.none, Yac, Yad, Yae, Yaf, ↓reduceIte, reduceCtorEq, Nat.reduceLT, Nat.reduceEqDiff, Nat.reduceAdd, Nat.reduceLeDiff, Nat.reducePow, Nat.reduceMul, Yay, Yaz, Yag, Yah, Yai, Yaj, Yak, Yal, Yam, Yan, Yao, Yap, Yaq, Yar, Yas, Yat, Yau, Yav, Yaw, Yax, Ybc, Ybd, Yba, Ybb, Yzz, tyW, List.length_map]
    -- a pass over the rules
    refine aw_for g.rules.length 5 (fun i (lx : Bool) => ⟨[(2, .ptr 0 0), (3, .ptr 1 0), (5, .ptr 4 0), (6, .lit (.bool (pas ask g.rules i kn).2)), (17, .vec (g.rules.map encRl) false), (18, .lit (.int .i64 g.rules.length)), (19, .lit (.int .i64 i))], fixH g f (pas ask g.rules i kn).1 lx, 56⟩)
      (fun _ _ => True) (fun _ _ => rfl) lx (St.wk_slots (by simp [lk, pas_zero, St.put])) trivial ?_ ?_
    · rintro i lx' hi _
      obtain ⟨r, hr⟩ : ∃ r, g.rules[i]? = some r := ⟨_, List.getElem?_eq_getElem hi⟩
      have hm : r ∈ g.rules := List.mem_of_getElem? hr
      have g1 := map_getD encRl hr
      have hnn : (0 : Int) ≤ (i : Int) := Int.natCast_nonneg i
      have hi1 : (i : Int) < (g.rules.length : Int) := by omega
      have hql := pas_len (ask := ask) (rs := g.rules) i kn
      rw [hl] at hql
      simp only [pas_succ]
      generalize pas ask g.rules i kn = q at hql ⊢
      have hst : stp ask g.rules q i = if !(q.1.getD i false) && rowB ask q.1 r then (q.1.set i true, true) else q := by simp only [stp, hr]
      simp only [Xaa, Xab, Xac, Xad, Xae, Xaf, Xag, Xah, Xai, Xaj, Xak, Xal, Xam, Xan, Xao, Xap, Xaq, Xar, Xas, Xat, Xau, Xav, Xaw, Xax, Xay, Xaz, Xba, Xbb, awl, Xbc, Xbd, Xbe, Xbf, Xbg, Xbh, Xbi, Xbj, Xbk, Xbl, Xbm, Xbn, Xbo, Xbp, Xbq, ne_eq, srcRows, awo, aggEq, eqF, litEq, andO, qwl, qwo, qOp, Xbr, Xbs, Xbt, lop, Yaa, Yab, Xbu, Xbv, Xbw, oneK, Xbx, Xby, Xbz, Xca, Xcb, Xcc, Xcd, Xce, Xcf, Xcg, Xch, stepOp, Xci, Xcj, Xck, pairO, pureOp, heapOp, entry, slotsOf, ev, evL, evP, evO, lk, up, St.put, St.drop, constAV, cellAV, cellsAV, plain, binV, intBin, strBin, guardBit, boolOf, fnOf, intOfAV, bound, resOf, retV, moved, rowOf, valAt, Kd.agg, AV.cells, splice, places, fillAV, rowsFill, Hp.none, Yac, Yad, Yae, Yaf, ↓reduceIte, reduceCtorEq, Nat.reduceLT, Nat.reduceEqDiff, Nat.reduceAdd, Nat.reduceLeDiff, Nat.reducePow, Nat.reduceMul, Yay, Yaz, Yag, Yah, Yai, Yaj, Yak, Yal, Yam, Yan, Yao, Yap, Yaq, Yar, Yas, Yat, Yau, Yav, Yaw, Yax, Ybc, Ybd, Yba, Ybb, Yzz, tyW, fixH, List.length_map]
      refine .intro (fun _ => ?_) (fun hb => absurd hi1 (of_decide_eq_false hb))
      rw [Xaa, Xam, Xad]
      simp only [Xaa, Xab, Xac, Xad, Xae, Xaf, Xag, Xah, Xai, Xaj, Xak, Xal, Xam, Xan, Xao, Xap, Xaq, Xar, Xas, Xat, Xau, Xav, Xaw, Xax, Xay, Xaz, Xba, Xbb, awl, Xbc, Xbd, Xbe, Xbf, Xbg, Xbh, Xbi, Xbj, Xbk, Xbl, Xbm, Xbn, Xbo, Xbp, Xbq, ne_eq, srcRows, awo, aggEq, eqF, litEq, andO, qwl, qwo, qOp, Xbr, Xbs, Xbt, lop, Yaa, Yab, Xbu, Xbv, Xbw, oneK, Xbx, Xby, Xbz, Xca, Xcb, Xcc, Xcd, Xce, Xcf, Xcg, Xch, stepOp, Xci, Xcj, Xck, pairO, pureOp, heapOp, entry, slotsOf, ev, evL, evP, evO, lk, up, St.put, St.drop, constAV, cellAV, cellsAV, plain, binV, intBin, strBin, guardBit, boolOf, fnOf, intOfAV, bound, resOf, retV, moved, rowOf, valAt, Kd.agg, AV.cells, splice, places, fillAV, rowsFill, Hp.none, Yac, Yad, Yae, Yaf, ↓reduceIte, reduceCtorEq, Nat.reduceLT, Nat.reduceEqDiff, Nat.reduceAdd, Nat.reduceLeDiff, Nat.reducePow, Nat.reduceMul, Yay, Yaz, Yag, Yah, Yai, Yaj, Yak, Yal, Yam, Yan, Yao, Yap, Yaq, Yar, Yas, Yat, Yau, Yav, Yaw, Yax, Ybc, Ybd, Yba, Ybb, Yzz, tyW, List.length_map, hi1, hnn, Int.toNat_natCast, g1, encRl_length, encRl_take]
      refine aw_drawC (n := 56) (σ' := ⟨[(2, .ptr 0 0), (3, .ptr 1 0), (5, .ptr 4 0), (6, .lit (.bool q.2)), (7, .lit (.int .i64 i)), (8, .ptr 5 0), (17, .vec (g.rules.map encRl) false), (18, .lit (.int .i64 g.rules.length)), (19, .lit (.int .i64 i))],
        ⟨[(0, encGr g), (1, [.fn (.func f) [] []]), (3, askC g 2 g.rules.length (capN r.name)), (4, [.ptr 3 0]), (5, encRl r)], [(2, knT q.1)], 6⟩, 56⟩) 6 4 (.alt 4 (.alt 5 (.alt 6 .leaf .nil) .nil) .nil) rfl (by decide) (by decide) mixed (by kernel_rfl) (by decide) ?_ ?_
      · simp only [Xaa, Xab, Xac, Xad, Xae, Xaf, Xag, Xah, Xai, Xaj, Xak, Xal, Xam, Xan, Xao, Xap, Xaq, Xar, Xas, Xat, Xau, Xav, Xaw, Xax, Xay, Xaz, Xba, Xbb, awl, Xbc, Xbd, Xbe, Xbf, Xbg, Xbh, Xbi, Xbj, Xbk, Xbl, Xbm, Xbn, Xbo, Xbp, Xbq, ne_eq, srcRows, awo, aggEq, eqF, litEq, andO, qwl, qwo, qOp, Xbr, Xbs, Xbt, lop, Yaa, Yab, Xbu, Xbv, Xbw, oneK, Xbx, Xby, Xbz, Xca, Xcb, Xcc, Xcd, Xce, Xcf, Xcg, Xch, stepOp, Xci, Xcj, Xck, pairO, pureOp, heapOp, entry, slotsOf, ev, evL, evP, evO, lk, up, St.put, St.drop, constAV, cellAV, cellsAV, plain, binV, intBin, strBin, guardBit, boolOf, fnOf, intOfAV, bound, resOf, retV, moved, rowOf, valAt, Kd.agg, AV.cells, splice, places, fillAV, rowsFill, Hp.none, Yac, Yad, Yae, Yaf, ↓reduceIte, reduceCtorEq, Nat.reduceLT, Nat.reduceEqDiff, Nat.reduceAdd, Nat.reduceLeDiff, Nat.reducePow, Nat.reduceMul, Yay, Yaz, Yag, Yah, Yai, Yaj, Yak, Yal, Yam, Yan, Yao, Yap, Yaq, Yar, Yas, Yat, Yau, Yav, Yaw, Yax, Ybc, Ybd, Yba, Ybb, Yzz, tyW, encRl]
        refine CallQ_pure call27 (spec27 r.name) (by simp [Pure.lit]) (.lit _) ?_
        simp only [Xaa, Xab, Xac, Xad, Xae, Xaf, Xag, Xah, Xai, Xaj, Xak, Xal, Xam, Xan, Xao, Xap, Xaq, Xar, Xas, Xat, Xau, Xav, Xaw, Xax, Xay, Xaz, Xba, Xbb, awl, Xbc, Xbd, Xbe, Xbf, Xbg, Xbh, Xbi, Xbj, Xbk, Xbl, Xbm, Xbn, Xbo, Xbp, Xbq, ne_eq, srcRows, awo, aggEq, eqF, litEq, andO, qwl, qwo, qOp, Xbr, Xbs, Xbt, lop, Yaa, Yab, Xbu, Xbv, Xbw, oneK, Xbx, Xby, Xbz, Xca, Xcb, Xcc, Xcd, Xce, Xcf, Xcg, Xch, stepOp, Xci, Xcj, Xck, pairO, pureOp, heapOp, entry, slotsOf, ev, evL, evP, evO, lk, up, St.put, St.drop, constAV, cellAV, cellsAV, plain, binV, intBin, strBin, guardBit, boolOf, fnOf, intOfAV, bound, resOf, retV, moved, rowOf, valAt, Kd.agg, AV.cells, splice, places, fillAV, rowsFill, Hp.none, Yac, Yad, Yae, Yaf, ↓reduceIte, reduceCtorEq, Nat.reduceLT, Nat.reduceEqDiff, Nat.reduceAdd, Nat.reduceLeDiff, Nat.reducePow, Nat.reduceMul, Yay, Yaz, Yag, Yah, Yai, Yaj, Yak, Yal, Yam, Yan, Yao, Yap, Yaq, Yar, Yas, Yat, Yau, Yav, Yaw, Yax, Ybc, Ybd, Yba, Ybb, Yzz, tyW, encRl, askC]
        exact St.wk.cp (St.wk_slots (by simp [lk]))
      · have k1 : g.rules.length = q.1.length := hql.symm
        have hx : i < q.1.length := by omega
        have hb := kn_get? hx
        simp only [Xaa, Xab, Xac, Xad, Xae, Xaf, Xag, Xah, Xai, Xaj, Xak, Xal, Xam, Xan, Xao, Xap, Xaq, Xar, Xas, Xat, Xau, Xav, Xaw, Xax, Xay, Xaz, Xba, Xbb, awl, Xbc, Xbd, Xbe, Xbf, Xbg, Xbh, Xbi, Xbj, Xbk, Xbl, Xbm, Xbn, Xbo, Xbp, Xbq, ne_eq, srcRows, awo, aggEq, eqF, litEq, andO, qwl, qwo, qOp, Xbr, Xbs, Xbt, lop, Yaa, Yab, Xbu, Xbv, Xbw, oneK, Xbx, Xby, Xbz, Xca, Xcb, Xcc, Xcd, Xce, Xcf, Xcg, Xch, stepOp, Xci, Xcj, Xck, pairO, pureOp, heapOp, entry, slotsOf, ev, evL, evP, evO, lk, up, St.put, St.drop, constAV, cellAV, cellsAV, plain, binV, intBin, strBin, guardBit, boolOf, fnOf, intOfAV, bound, resOf, retV, moved, rowOf, valAt, Kd.agg, AV.cells, splice, places, fillAV, rowsFill, Hp.none, Yac, Yad, Yae, Yaf, ↓reduceIte, reduceCtorEq, Nat.reduceLT, Nat.reduceEqDiff, Nat.reduceAdd, Nat.reduceLeDiff, Nat.reducePow, Nat.reduceMul, Yay, Yaz, Yag, Yah, Yai, Yaj, Yak, Yal, Yam, Yan, Yao, Yap, Yaq, Yar, Yas, Yat, Yau, Yav, Yaw, Yax, Ybc, Ybd, Yba, Ybb, Yzz, tyW, encRl, askC, hnn, hi1, knT, List.length_map, hql, Int.toNat_natCast, hb, bit]
        have ra : r.alts.length ≤ 1000000000 := by
          have h1 := sum_len asz asz_pos r.alts
          have h2 := rsz_mem hm
          simp only [grsz] at hg; simp only [rsz] at h2; omega
        have back : ∀ {sl : List (Nat × AV)} {bx : List (Nat × List AV)} {q' : List Bool × Bool} {lx : Bool}, lk sl 2 = some (.ptr 0 0) → lk sl 3 = some (.ptr 1 0) → lk sl 5 = some (.ptr 4 0) → lk sl 6 = some (.lit (.bool q'.2)) → lk sl 17 = some (.vec (g.rules.map encRl) false) → lk sl 18 = some (.lit (.int .i64 g.rules.length)) →
            lk sl 19 = some (.lit (.int .i64 ((i + 1 : Nat) : Int))) → lk bx 0 = some (encGr g) → lk bx 1 = some [.fn (.func f) [] []] → lk bx 3 = some (askC g 2 g.rules.length lx) → lk bx 4 = some [.ptr 3 0] →
            St.cp 5 ⟨sl, ⟨bx, [(2, knT q'.1)], 6⟩, 56⟩ ⟨[(2, .ptr 0 0), (3, .ptr 1 0), (5, .ptr 4 0), (6, .lit (.bool q'.2)), (17, .vec (g.rules.map encRl) false), (18, .lit (.int .i64 g.rules.length)), (19, .lit (.int .i64 ((i + 1 : Nat) : Int)))], fixH g f q'.1 lx, 56⟩ := by
          intro sl bx q' lx s2 s3 s5 s6 s17 s18 s19 b0 b1 b3 b4
          exact cp_back (fixH_own g f q'.1 lx) (by show 5 ≤ 6; decide) rfl (allc s2 (allc s3 (allc s5 (allc s6 (allc s17 (allc s18 (allc s19 alln)))))))
            (allc (.ptr (by show 0 < 5; decide) rfl) (allc (.ptr (by show 1 < 5; decide) rfl) (allc (.ptr (by show 4 < 5; decide) rfl) (allc (.pure (.lit _)) (allc (.pure (.vec (pure_rows pure_encRl _))) (allc (.pure (.lit _)) (allc (.pure (.lit _)) alln)))))))
            (allc b0 (allc b1 (allc b3 (allc b4 alln)))) (allc rfl alln)
        cases hold : q.1.getD i false
        · simp only [Xaa, Xab, Xac, Xad, Xae, Xaf, Xag, Xah, Xai, Xaj, Xak, Xal, Xam, Xan, Xao, Xap, Xaq, Xar, Xas, Xat, Xau, Xav, Xaw, Xax, Xay, Xaz, Xba, Xbb, awl, Xbc, Xbd, Xbe, Xbf, Xbg, Xbh, Xbi, Xbj, Xbk, Xbl, Xbm, Xbn, Xbo, Xbp, Xbq, ne_eq, srcRows, awo, aggEq, eqF, litEq, andO, qwl, qwo, qOp, Xbr, Xbs, Xbt, lop, Yaa, Yab, Xbu, Xbv, Xbw, oneK, Xbx, Xby, Xbz, Xca, Xcb, Xcc, Xcd, Xce, Xcf, Xcg, Xch, stepOp, Xci, Xcj, Xck, pairO, pureOp, heapOp, entry, slotsOf, ev, evL, evP, evO, lk, up, St.put, St.drop, constAV, cellAV, cellsAV, plain, binV, intBin, strBin, guardBit, boolOf, fnOf, intOfAV, bound, resOf, retV, moved, rowOf, valAt, Kd.agg, AV.cells, splice, places, fillAV, rowsFill, Hp.none, Yac, Yad, Yae, Yaf, ↓reduceIte, reduceCtorEq, Nat.reduceLT, Nat.reduceEqDiff, Nat.reduceAdd, Nat.reduceLeDiff, Nat.reducePow, Nat.reduceMul, Yay, Yaz, Yag, Yah, Yai, Yaj, Yak, Yal, Yam, Yan, Yao, Yap, Yaq, Yar, Yas, Yat, Yau, Yav, Yaw, Yax, Ybc, Ybd, Yba, Ybb, Yzz, tyW]
          refine CallK_of call28 (contains_Alt r.alts (fun a => ask q.1 (capN r.name) a.e) ra _ [] [.ptr 1 0, .ptr 4 0] _ call29 fun al hal =>
            fixed1_spec hcf (hask q.1 (capN r.name) al.e hql (by have h1 := asz_mem hal; have h2 := rsz_mem hm; simp only [grsz] at hg; simp only [rsz] at h2; simp only [asz] at h1; omega)) rfl (by rw [hql]; rfl) rfl rfl (by show 5 ≤ 6; decide) rfl rfl rfl rfl) ?_
          rintro r0 h' ⟨rfl, rfl⟩
          rw [show (r.alts.any fun a => ask q.1 (capN r.name) a.e) = rowB ask q.1 r from rfl]
          cases hrow : rowB ask q.1 r
          · have hst2 : stp ask g.rules q i = q := by rw [hst, hrow]; simp
            rw [hst2]
            simp (disch := omega) only [Xaa, Xab, Xac, Xad, Xae, Xaf, Xag, Xah, Xai, Xaj, Xak, Xal, Xam, Xan, Xao, Xap, Xaq, Xar, Xas, Xat, Xau, Xav, Xaw, Xax, Xay, Xaz, Xba, Xbb, awl, Xbc, Xbd, Xbe, Xbf, Xbg, Xbh, Xbi, Xbj, Xbk, Xbl, Xbm, Xbn, Xbo, Xbp, Xbq, ne_eq, srcRows, awo, aggEq, eqF, litEq, andO, qwl, qwo, qOp, Xbr, Xbs, Xbt, lop, Yaa, Yab, Xbu, Xbv, Xbw, oneK, Xbx, Xby, Xbz, Xca, Xcb, Xcc, Xcd, Xce, Xcf, Xcg, Xch, stepOp, Xci, Xcj, Xck, pairO, pureOp, heapOp, entry, slotsOf, ev, evL, evP, evO, lk, up, St.put, St.drop, constAV, cellAV, cellsAV, plain, binV, intBin, strBin, guardBit, boolOf, fnOf, intOfAV, bound, resOf, retV, moved, rowOf, valAt, Kd.agg, AV.cells, splice, places, fillAV, rowsFill, Hp.none, Yac, Yad, Yae, Yaf, ↓reduceIte, reduceCtorEq, Nat.reduceLT, Nat.reduceEqDiff, Nat.reduceAdd, Nat.reduceLeDiff, Nat.reducePow, Nat.reduceMul, Yay, Yaz, Yag, Yah, Yai, Yaj, Yak, Yal, Yam, Yan, Yao, Yap, Yaq, Yar, Yas, Yat, Yau, Yav, Yaw, Yax, Ybc, Ybd, Yba, Ybb, Yzz, tyW, i64w]
            exact ⟨capN r.name, back rfl rfl rfl rfl rfl rfl rfl rfl rfl rfl rfl⟩
          · have hst2 : stp ask g.rules q i = (q.1.set i true, true) := by rw [hst, hrow, hold]; simp
            rw [hst2]
            have hg0 := kn_get? hx
            have hset : (q.1.map bit).set i [AV.lit (.bool true)] = (q.1.set i true).map bit := by rw [List.map_set]; rfl
            simp (disch := omega) only [Xaa, Xab, Xac, Xad, Xae, Xaf, Xag, Xah, Xai, Xaj, Xak, Xal, Xam, Xan, Xao, Xap, Xaq, Xar, Xas, Xat, Xau, Xav, Xaw, Xax, Xay, Xaz, Xba, Xbb, awl, Xbc, Xbd, Xbe, Xbf, Xbg, Xbh, Xbi, Xbj, Xbk, Xbl, Xbm, Xbn, Xbo, Xbp, Xbq, ne_eq, srcRows, awo, aggEq, eqF, litEq, andO, qwl, qwo, qOp, Xbr, Xbs, Xbt, lop, Yaa, Yab, Xbu, Xbv, Xbw, oneK, Xbx, Xby, Xbz, Xca, Xcb, Xcc, Xcd, Xce, Xcf, Xcg, Xch, stepOp, Xci, Xcj, Xck, pairO, pureOp, heapOp, entry, slotsOf, ev, evL, evP, evO, lk, up, St.put, St.drop, constAV, cellAV, cellsAV, plain, binV, intBin, strBin, guardBit, boolOf, fnOf, intOfAV, bound, resOf, retV, moved, rowOf, valAt, Kd.agg, AV.cells, splice, places, fillAV, rowsFill, Hp.none, Yac, Yad, Yae, Yaf, ↓reduceIte, reduceCtorEq, Nat.reduceLT, Nat.reduceEqDiff, Nat.reduceAdd, Nat.reduceLeDiff, Nat.reducePow, Nat.reduceMul, Yay, Yaz, Yag, Yah, Yai, Yaj, Yak, Yal, Yam, Yan, Yao, Yap, Yaq, Yar, Yas, Yat, Yau, Yav, Yaw, Yax, Ybc, Ybd, Yba, Ybb, Yzz, tyW, hnn, hi1, List.length_map, hql, Int.toNat_natCast, hg0, bit, Nat.zero_le, hset, i64w]
            exact ⟨capN r.name, back (q' := (q.1.set i true, true)) rfl rfl rfl rfl rfl rfl rfl rfl rfl rfl rfl⟩
        · have hst2 : stp ask g.rules q i = q := by rw [hst, hold]; simp
          rw [hst2]
          simp (disch := omega) only [Xaa, Xab, Xac, Xad, Xae, Xaf, Xag, Xah, Xai, Xaj, Xak, Xal, Xam, Xan, Xao, Xap, Xaq, Xar, Xas, Xat, Xau, Xav, Xaw, Xax, Xay, Xaz, Xba, Xbb, awl, Xbc, Xbd, Xbe, Xbf, Xbg, Xbh, Xbi, Xbj, Xbk, Xbl, Xbm, Xbn, Xbo, Xbp, Xbq, ne_eq, srcRows, awo, aggEq, eqF, litEq, andO, qwl, qwo, qOp, Xbr, Xbs, Xbt, lop, Yaa, Yab, Xbu, Xbv, Xbw, oneK, Xbx, Xby, Xbz, Xca, Xcb, Xcc, Xcd, Xce, Xcf, Xcg, Xch, stepOp, Xci, Xcj, Xck, pairO, pureOp, heapOp, entry, slotsOf, ev, evL, evP, evO, lk, up, St.put, St.drop, constAV, cellAV, cellsAV, plain, binV, intBin, strBin, guardBit, boolOf, fnOf, intOfAV, bound, resOf, retV, moved, rowOf, valAt, Kd.agg, AV.cells, splice, places, fillAV, rowsFill, Hp.none, Yac, Yad, Yae, Yaf, ↓reduceIte, reduceCtorEq, Nat.reduceLT, Nat.reduceEqDiff, Nat.reduceAdd, Nat.reduceLeDiff, Nat.reducePow, Nat.reduceMul, Yay, Yaz, Yag, Yah, Yai, Yaj, Yak, Yal, Yam, Yan, Yao, Yap, Yaq, Yar, Yas, Yat, Yau, Yav, Yaw, Yax, Ybc, Ybd, Yba, Ybb, Yzz, tyW, i64w]
          exact ⟨capN r.name, back rfl rfl rfl rfl rfl rfl rfl rfl rfl rfl rfl⟩
    · rintro lx' _
      simp only [Xaa, Xab, Xac, Xad, Xae, Xaf, Xag, Xah, Xai, Xaj, Xak, Xal, Xam, Xan, Xao, Xap, Xaq, Xar, Xas, Xat, Xau, Xav, Xaw, Xax, Xay, Xaz, Xba, Xbb, awl, Xbc, Xbd, Xbe, Xbf, Xbg, Xbh, Xbi, Xbj, Xbk, Xbl, Xbm, Xbn, Xbo, Xbp, Xbq, ne_eq, srcRows, awo, aggEq, eqF, litEq, andO, qwl, qwo, qOp, Xbr, Xbs, Xbt, lop, Yaa, Yab, Xbu, Xbv, Xbw, oneK, Xbx, Xby, Xbz, Xca, Xcb, Xcc, Xcd, Xce, Xcf, Xcg, Xch, stepOp, Xci, Xcj, Xck, pairO, pureOp, heapOp, entry, slotsOf, ev, evL, evP, evO, lk, up, St.put, St.drop, constAV, cellAV, cellsAV, plain, binV, intBin, strBin, guardBit, boolOf, fnOf, intOfAV, bound, resOf, retV, moved, rowOf, valAt, Kd.agg, AV.cells, splice, places, fillAV, rowsFill, Hp.none, Yac, Yad, Yae, Yaf, ↓reduceIte, reduceCtorEq, Nat.reduceLT, Nat.reduceEqDiff, Nat.reduceAdd, Nat.reduceLeDiff, Nat.reducePow, Nat.reduceMul, Yay, Yaz, Yag, Yah, Yai, Yaj, Yak, Yal, Yam, Yan, Yao, Yap, Yaq, Yar, Yas, Yat, Yau, Yav, Yaw, Yax, Ybc, Ybd, Yba, Ybb, Yzz, tyW, fixH, List.length_map]
      refine .intro (fun hb => absurd (of_decide_eq_true hb) (by omega)) (fun _ => ?_)
      simp only [Xaa, Xab, Xac, Xad, Xae, Xaf, Xag, Xah, Xai, Xaj, Xak, Xal, Xam, Xan, Xao, Xap, Xaq, Xar, Xas, Xat, Xau, Xav, Xaw, Xax, Xay, Xaz, Xba, Xbb, awl, Xbc, Xbd, Xbe, Xbf, Xbg, Xbh, Xbi, Xbj, Xbk, Xbl, Xbm, Xbn, Xbo, Xbp, Xbq, ne_eq, srcRows, awo, aggEq, eqF, litEq, andO, qwl, qwo, qOp, Xbr, Xbs, Xbt, lop, Yaa, Yab, Xbu, Xbv, Xbw, oneK, Xbx, Xby, Xbz, Xca, Xcb, Xcc, Xcd, Xce, Xcf, Xcg, Xch, stepOp, Xci, Xcj, Xck, pairO, pureOp, heapOp, entry, slotsOf, ev, evL, evP, evO, lk, up, St.put, St.drop, constAV, cellAV, cellsAV, plain, binV, intBin, strBin, guardBit, boolOf, fnOf, intOfAV, bound, resOf, retV, moved, rowOf, valAt, Kd.agg, AV.cells, splice, places, fillAV, rowsFill, Hp.none, Yac, Yad, Yae, Yaf, ↓reduceIte, reduceCtorEq, Nat.reduceLT, Nat.reduceEqDiff, Nat.reduceAdd, Nat.reduceLeDiff, Nat.reducePow, Nat.reduceMul, Yay, Yaz, Yag, Yah, Yai, Yaj, Yak, Yal, Yam, Yan, Yao, Yap, Yaq, Yar, Yas, Yat, Yau, Yav, Yaw, Yax, Ybc, Ybd, Yba, Ybb, Yzz, tyW]
      have hql := pas_len (ask := ask) (rs := g.rules) g.rules.length kn
      rcases pas_flag (ask := ask) (rs := g.rules) g.rules.length kn hl with ⟨h1, h2⟩ | ⟨h1, h2⟩
      · have hfix := fix_of (by omega) hkn h2
        rw [h1, h2]
        simp only [Xaa, Xab, Xac, Xad, Xae, Xaf, Xag, Xah, Xai, Xaj, Xak, Xal, Xam, Xan, Xao, Xap, Xaq, Xar, Xas, Xat, Xau, Xav, Xaw, Xax, Xay, Xaz, Xba, Xbb, awl, Xbc, Xbd, Xbe, Xbf, Xbg, Xbh, Xbi, Xbj, Xbk, Xbl, Xbm, Xbn, Xbo, Xbp, Xbq, ne_eq, srcRows, awo, aggEq, eqF, litEq, andO, qwl, qwo, qOp, Xbr, Xbs, Xbt, lop, Yaa, Yab, Xbu, Xbv, Xbw, oneK, Xbx, Xby, Xbz, Xca, Xcb, Xcc, Xcd, Xce, Xcf, Xcg, Xch, stepOp, Xci, Xcj, Xck, pairO, pureOp, heapOp, entry, slotsOf, ev, evL, evP, evO, lk, up, St.put, St.drop, constAV, cellAV, cellsAV, plain, binV, intBin, strBin, guardBit, boolOf, fnOf, intOfAV, bound, resOf, retV, moved, rowOf, valAt, Kd.agg, AV.cells, splice, places, fillAV, rowsFill, Hp.none, Yac, Yad, Yae, Yaf, ↓reduceIte, reduceCtorEq, Nat.reduceLT, Nat.reduceEqDiff, Nat.reduceAdd, Nat.reduceLeDiff, Nat.reducePow, Nat.reduceMul, Yay, Yaz, Yag, Yah, Yai, Yaj, Yak, Yal, Yam, Yan, Yao, Yap, Yaq, Yar, Yas, Yat, Yau, Yav, Yaw, Yax, Ybc, Ybd, Yba, Ybb, Yzz, tyW, askC]
        refine ⟨⟨[(4, .own 0 g.rules.length)], knH kn, 56⟩, St.cp_of 0 [2] (by show 0 ≤ 5; decide) rfl rfl (by decide) (by show ∀ x ∈ [2], 0 ≤ x ∧ x < 5; decide) (allc ⟨_, rfl, .own (by show 0 < 1; decide) rfl⟩ alln) alln (allc ⟨by show 0 < 1; decide, _, rfl, rfl, rfl, knT_rn kn⟩ alln), ?_⟩
        rw [hfix]
        exact ⟨rfl, rfl⟩
      · rw [h1]
        simp only [Xaa, Xab, Xac, Xad, Xae, Xaf, Xag, Xah, Xai, Xaj, Xak, Xal, Xam, Xan, Xao, Xap, Xaq, Xar, Xas, Xat, Xau, Xav, Xaw, Xax, Xay, Xaz, Xba, Xbb, awl, Xbc, Xbd, Xbe, Xbf, Xbg, Xbh, Xbi, Xbj, Xbk, Xbl, Xbm, Xbn, Xbo, Xbp, Xbq, ne_eq, srcRows, awo, aggEq, eqF, litEq, andO, qwl, qwo, qOp, Xbr, Xbs, Xbt, lop, Yaa, Yab, Xbu, Xbv, Xbw, oneK, Xbx, Xby, Xbz, Xca, Xcb, Xcc, Xcd, Xce, Xcf, Xcg, Xch, stepOp, Xci, Xcj, Xck, pairO, pureOp, heapOp, entry, slotsOf, ev, evL, evP, evO, lk, up, St.put, St.drop, constAV, cellAV, cellsAV, plain, binV, intBin, strBin, guardBit, boolOf, fnOf, intOfAV, bound, resOf, retV, moved, rowOf, valAt, Kd.agg, AV.cells, splice, places, fillAV, rowsFill, Hp.none, Yac, Yad, Yae, Yaf, ↓reduceIte, reduceCtorEq, Nat.reduceLT, Nat.reduceEqDiff, Nat.reduceAdd, Nat.reduceLeDiff, Nat.reducePow, Nat.reduceMul, Yay, Yaz, Yag, Yah, Yai, Yaj, Yak, Yal, Yam, Yan, Yao, Yap, Yaq, Yar, Yas, Yat, Yau, Yav, Yaw, Yax, Ybc, Ybd, Yba, Ybb, Yzz, tyW]
        exact ⟨_, St.wk.cp (St.wk_slots (by simp [lk])), cf (pas ask g.rules g.rules.length kn).1, by omega, a + 1, _, lx', by rw [itr_snoc, ← hkn], by omega, rfl, by omega, rfl⟩
end Go.Proofs.Ytogdlomemaoajaa
