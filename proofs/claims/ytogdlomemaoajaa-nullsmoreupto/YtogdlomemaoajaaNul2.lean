/- Contracts: which elements may be empty, as far as rules are known to be: the program's answer. Conditions: those that each theorem names. -/
import Derived.Test.YtogdlomemaoajaaNul1
namespace Go.Proofs.Ytogdlomemaoajaa
open Go.Ab
set_option linter.unusedSimpArgs false
set_option linter.unusedVariables false
set_option maxRecDepth 20000

mutual
def emp (rs : List Rl) (kn : List Bool) (lx : Bool) : El → Bool
  | .mk op name _ _ _ kids _ _ => if op = 0 then decide (callI rs lx name ≥ 0) && kn.getD (callI rs lx name).toNat false else if op = 1 then lx && (name.toList == (⟨#[]⟩ : ByteArray).toList)
    else if op = 5 then empAll rs kn lx kids else if op = 6 then empAny rs kn lx kids else if op = 9 then empHd rs kn lx kids else (op == 7 || op == 8 || op == 10)
def empAll (rs : List Rl) (kn : List Bool) (lx : Bool) : List El → Bool
  | [] => true
  | e :: l => emp rs kn lx e && empAll rs kn lx l
def empAny (rs : List Rl) (kn : List Bool) (lx : Bool) : List El → Bool
  | [] => false
  | e :: l => emp rs kn lx e || empAny rs kn lx l
def empHd (rs : List Rl) (kn : List Bool) (lx : Bool) : List El → Bool
  | [] => false
  | e :: l => emp rs kn lx e
end
theorem empAll_eq (rs kn lx) (l : List El) : empAll rs kn lx l = !(l.any fun e => !emp rs kn lx e) := by
  induction l with
  | nil => rfl
  | cons e l ih => simp [empAll, ih]
theorem empAny_eq (rs kn lx) (l : List El) : empAny rs kn lx l = l.any (emp rs kn lx) := by
  induction l with
  | nil => rfl
  | cons e l ih => simp [empAny, ih]

def bit (b : Bool) : List AV := [.lit (.bool b)]
theorem bit_length (b : Bool) : (bit b).length = 1 := rfl
theorem pure_bit (b : Bool) : ∀ c ∈ bit b, Pure c := by simp [bit, Pure.lit]
def askC (g : Gr) (t n : Nat) (lx : Bool) : List AV :=
  [.lit (.string g.name.name), .lit (.int .i64 g.name.file), .lit (.int .i64 g.name.place), .vec (g.imports.map encW) false, .vec (g.channels.map encW) false, .vec (g.tokens.map encW) false, .vec (g.modes.map encW) false, .vec (g.rules.map encRl) false, .own t n, .lit (.bool lx)]
theorem askC_eq (g : Gr) (t n : Nat) (lx : Bool) : askC g t n lx = encGr g ++ [.own t n, .lit (.bool lx)] := rfl
def knT (kn : List Bool) : Tk := ⟨kn.map bit, 0, 1⟩
def askH (g : Gr) (kn : List Bool) (lx : Bool) : Hp := ⟨[(0, askC g 1 kn.length lx)], [(1, knT kn)], 2⟩

theorem askC_rn {ρ : Nat → Nat} {n : Nat} (g : Gr) (t t' m : Nat) (lx : Bool) (h : t < n) (h' : ρ t = t') : RnL ρ n (askC g t m lx) (askC g t' m lx) := by
  rw [askC_eq, askC_eq]
  exact .append rfl (.pure (pure_encGr g)) (.cons (.own h h') (.cons (.pure (.lit _)) .nil))
theorem knT_rn {ρ : Nat → Nat} {n : Nat} (kn : List Bool) : RnR ρ n (knT kn).xs (knT kn).xs := .pure (pure_rows pure_bit kn)

/-- An asker, in any heap. -/
theorem ask_sub {f : Nat} {g : Gr} {kn : List Bool} {lx : Bool} {x : AV} {r : AV} (hx : Pure x) (hr : Pure r) {H : Hp} (a t : Nat) (ha : lk H.boxes a = some (askC g t kn.length lx)) (ht : lk H.toks t = some (knT kn)) (hne : a ≠ t) (h1 : a < H.nx) (h2 : t < H.nx) (h3 : lk H.toks a = none)
    (hc : QCall Try.prog f [.ptr 0 0, x] (askH g kn lx) r) : QCall Try.prog f [.ptr a 0, x] H r := by
  refine QCall.sub (hs := askH g kn lx) (r0 := r) (av := [.ptr 0 0, x]) [a, t] rfl (by simp [hne]) (by simp [h1, h2]) (.cons (.ptr (by show 0 < 2; decide) rfl) (.cons (.pure hx) .nil)) ?_ ?_ ?_ hc (.pure hr)
  · intro p hp
    simp only [askH, List.mem_cons, List.not_mem_nil, or_false] at hp
    subst hp
    exact ⟨by show 0 < 2; decide, _, ha, askC_rn g 1 t _ lx (by show 1 < 2; decide) rfl⟩
  · intro p hp
    simp only [askH, List.mem_cons, List.not_mem_nil, or_false] at hp
    subst hp
    exact ⟨by show 1 < 2; decide, _, ht, rfl, rfl, knT_rn kn⟩
  · intro i hi hn
    have hi : i < 2 := hi
    match i, hi with
    | 0, _ => exact h3
    | 1, _ => simp [askH, lk] at hn

theorem askH_own (g : Gr) (kn : List Bool) (lx : Bool) : Own (askH g kn lx) := ⟨by
    intro p hp
    simp only [askH, List.mem_cons, List.not_mem_nil, or_false] at hp
    subst hp
    exact ⟨by show 0 < 2; decide, askC_rn g 1 1 _ lx (by show 1 < 2; decide) rfl⟩, by
    intro p hp
    simp only [askH, List.mem_cons, List.not_mem_nil, or_false] at hp
    subst hp
    exact ⟨by show 1 < 2; decide, knT_rn kn⟩⟩

theorem callI_lt (rs : List Rl) (lx : Bool) (s : ByteArray) : callI rs lx s < (rs.length : Int) ∨ rs.length = 0 := by
  simp only [callI]
  split
  · omega
  · split
    · rename_i h
      obtain ⟨x, hx, hp⟩ := List.any_eq_true.1 h
      have := List.findIdx_lt_length_of_exists ⟨x, hx, hp⟩
      omega
    · omega

theorem callF_eq {rs : List Rl} {lx : Bool} {s : ByteArray} (h : callI rs lx s ≥ 0) : callF rs lx s = callI rs lx s := by
  simp only [callF]
  split
  · rename_i q; simp only [callI, q, if_true] at h; omega
  · rfl
theorem kn_get {kn : List Bool} {i : Nat} : (kn.map bit).getD i [] = if i < kn.length then bit (kn.getD i false) else [] := by
  by_cases h : i < kn.length <;> simp [List.getD_eq_getElem?_getD, h]

theorem kn_get? {kn : List Bool} {i : Nat} (h : i < kn.length) : (kn.map bit)[i]? = some (bit (kn.getD i false)) := by
  simp [List.getD_eq_getElem?_getD, h]

theorem kn_getD {kn : List Bool} {i : Nat} (h : i < kn.length) : (kn.map bit).getD i [] = bit (kn.getD i false) := by
  simp [List.getD_eq_getElem?_getD, h]

/-! The asker as a variable whose row of what is known may still be written (true), or as one that stays (false). -/
def askV (g : Gr) (kn : List Bool) (lx : Bool) : List AV :=
  [.lit (.string g.name.name), .lit (.int .i64 g.name.file), .lit (.int .i64 g.name.place), .vec (g.imports.map encW) false, .vec (g.channels.map encW) false, .vec (g.tokens.map encW) false, .vec (g.modes.map encW) false, .vec (g.rules.map encRl) false, .vec (kn.map bit) false, .lit (.bool lx)]
theorem askV_eq (g : Gr) (kn : List Bool) (lx : Bool) : askV g kn lx = encGr g ++ [.vec (kn.map bit) false, .lit (.bool lx)] := rfl
theorem pure_askV (g : Gr) (kn : List Bool) (lx : Bool) : ∀ c ∈ askV g kn lx, Pure c := by
  rw [askV_eq]
  intro c hc
  rcases List.mem_append.1 hc with h | h
  · exact pure_encGr g c h
  · simp only [List.mem_cons, List.not_mem_nil, or_false] at h
    rcases h with rfl | rfl
    · exact .vec (pure_rows pure_bit kn)
    · exact .lit _
def rcv (g : Gr) (kn : List Bool) (lx : Bool) : Bool → AV
  | true => .ptr 0 0
  | false => .pp (askV g kn lx) 0
def abx (g : Gr) (kn : List Bool) (lx : Bool) : Bool → List (Nat × List AV)
  | true => [(0, askC g 1 kn.length lx)]
  | false => []
def atk (kn : List Bool) : Bool → List (Nat × Tk)
  | true => [(1, knT kn)]
  | false => []
def askB (g : Gr) (kn : List Bool) (lx : Bool) (b : Bool) : Hp := ⟨abx g kn lx b, atk kn b, 2⟩
theorem rcv_rn {n : Nat} (g : Gr) (kn : List Bool) (lx : Bool) (b : Bool) {ρ : Nat → Nat} (hn : 0 < n) (hρ : ρ 0 = 0) : Rn ρ n (rcv g kn lx b) (rcv g kn lx b) := by
  cases b
  · exact .pure (.pp (pure_askV g kn lx))
  · exact .ptr hn hρ
theorem askB_own (g : Gr) (kn : List Bool) (lx b : Bool) : Own (askB g kn lx b) := by
  cases b
  · exact ⟨alln, alln⟩
  · exact askH_own g kn lx
theorem askB_sub {f : Nat} {g : Gr} {kn : List Bool} {lx b : Bool} {x r : AV} (hx : Pure x) (hr : Pure r) {H : Hp} (hb : ∀ p ∈ abx g kn lx b, lk H.boxes p.1 = some p.2) (ht : H.toks = atk kn b) (hn : 2 ≤ H.nx)
    (hc : QCall Try.prog f [rcv g kn lx b, x] (askB g kn lx b) r) : QCall Try.prog f [rcv g kn lx b, x] H r := by
  cases b
  · refine QCall.sub (hs := askB g kn lx false) (r0 := r) (av := [rcv g kn lx false, x]) [0, 1] rfl (by decide) (by simp; omega) (.cons (rcv_rn g kn lx false (by show 0 < 2; decide) rfl) (.cons (.pure hx) .nil)) alln alln ?_ hc (.pure hr)
    intro i _ _; rw [ht]; rfl
  · exact ask_sub hx hr 0 1 (hb (0, askC g 1 kn.length lx) (.head _)) (by rw [ht]; rfl) (by decide) (by omega) (by omega) (by rw [ht]; rfl) hc

def fullB (g : Gr) (kn : List Bool) (lx b : Bool) : Hp := ⟨abx g kn lx b ++ [(2, [rcv g kn lx b])], atk kn b, 3⟩
theorem fullB_own (g : Gr) (kn : List Bool) (lx b : Bool) : Own (fullB g kn lx b) := by
  cases b
  · exact ⟨allc ⟨by show 2 < 3; decide, .cons (rcv_rn g kn lx false (by show 0 < 3; decide) rfl) .nil⟩ alln, alln⟩
  · exact ⟨allc ⟨by show 0 < 3; decide, askC_rn g 1 1 _ lx (by show 1 < 3; decide) rfl⟩ (allc ⟨by show 2 < 3; decide, .cons (.ptr (by show 0 < 3; decide) rfl) .nil⟩ alln), allc ⟨by show 1 < 3; decide, knT_rn kn⟩ alln⟩

/-- The call back of a row of elements: is one full? -/
theorem full_spec {g : Gr} {kn : List Bool} {lx b : Bool} {k : El} {c : Bool} (hc : QCall Try.prog 18 [rcv g kn lx b, .agg (encE k)] (askB g kn lx b) (.lit (.bool c)))
    {H : Hp} (h0 : ∀ p ∈ abx g kn lx b, lk H.boxes p.1 = some p.2) (h2 : lk H.boxes 2 = some [rcv g kn lx b]) (h1 : H.toks = atk kn b) (hn : 3 ≤ H.nx) :
    QCall Try.prog 30 ([] ++ [.agg (encE k)] ++ [.ptr 2 0]) H (.lit (.bool !c)) := by
  have base : QCall Try.prog 30 [.agg (encE k), .ptr 2 0] (fullB g kn lx b) (.lit (.bool !c)) := by
    refine SCall_introC Try.func30 rfl Try.ntmps30 (rs := [.tmp 3]) rfl (by simp) (N := 3) rfl ?_
    have own := fullB_own g kn lx b
    cases b
    all_goals
      simp only [Xaa, Xab, Xac, Xad, Xae, Xaf, Xag, Xah, Xai, Xaj, Xak, Xal, Xam, Xan, Xao, Xap, Xaq, Xar, Xas, Xat, Xau, Xav, Xaw, Xax, Xay, Xaz, Xba, Xbb, awl, Xbc, Xbd, Xbe, Xbf, Xbg, Xbh, Xbi, Xbj, Xbk, Xbl, Xbm, Xbn, Xbo, Xbp, Xbq, ne_eq, srcRows, awo, aggEq, eqF, litEq, andO, qwl, qwo, qOp, Xbr, Xbs, Xbt, lop, Yaa, Yab, Xbu, Xbv, Xbw, oneK, Xbx, Xby, Xbz, Xca, Xcb, Xcc, Xcd, Xce, Xcf, Xcg, Xch, stepOp, Xci, Xcj, Xck, pairO, pureOp, heapOp, entry, slotsOf, ev, evL, evP, evO, lk, up, St.put, St.drop, constAV, cellAV, cellsAV, plain, binV, intBin, strBin, guardBit, boolOf, fnOf, intOfAV, bound, resOf, retV, moved, rowOf, valAt, Kd.agg, AV.cells, splice, places, fillAV, rowsFill, Hp.none, Yac, Yad, Yae, Yaf, ↓reduceIte, reduceCtorEq, Nat.reduceLT, Nat.reduceEqDiff, Nat.reduceAdd, Nat.reduceLeDiff, Nat.reducePow, Nat.reduceMul, Yay, Yaz, Yag, Yah, Yai, Yaj, Yak, Yal, Yam, Yan, Yao, Yap, Yaq, Yar, Yas, Yat, Yau, Yav, Yaw, Yax, Ybc, Ybd, Yba, Ybb, Yzz, tyW, fullB, abx, atk, encE_length, encE_take]
      refine CallK_of call18 (askB_sub (pureE k) (.lit _) (by first | exact alln | exact allc rfl alln) rfl (by show 2 ≤ 4; decide) hc) ?_
      rintro r h' ⟨rfl, rfl⟩
      simp only [Xaa, Xab, Xac, Xad, Xae, Xaf, Xag, Xah, Xai, Xaj, Xak, Xal, Xam, Xan, Xao, Xap, Xaq, Xar, Xas, Xat, Xau, Xav, Xaw, Xax, Xay, Xaz, Xba, Xbb, awl, Xbc, Xbd, Xbe, Xbf, Xbg, Xbh, Xbi, Xbj, Xbk, Xbl, Xbm, Xbn, Xbo, Xbp, Xbq, ne_eq, srcRows, awo, aggEq, eqF, litEq, andO, qwl, qwo, qOp, Xbr, Xbs, Xbt, lop, Yaa, Yab, Xbu, Xbv, Xbw, oneK, Xbx, Xby, Xbz, Xca, Xcb, Xcc, Xcd, Xce, Xcf, Xcg, Xch, stepOp, Xci, Xcj, Xck, pairO, pureOp, heapOp, entry, slotsOf, ev, evL, evP, evO, lk, up, St.put, St.drop, constAV, cellAV, cellsAV, plain, binV, intBin, strBin, guardBit, boolOf, fnOf, intOfAV, bound, resOf, retV, moved, rowOf, valAt, Kd.agg, AV.cells, splice, places, fillAV, rowsFill, Hp.none, Yac, Yad, Yae, Yaf, ↓reduceIte, reduceCtorEq, Nat.reduceLT, Nat.reduceEqDiff, Nat.reduceAdd, Nat.reduceLeDiff, Nat.reducePow, Nat.reduceMul, Yay, Yaz, Yag, Yah, Yai, Yaj, Yak, Yal, Yam, Yan, Yao, Yap, Yaq, Yar, Yas, Yat, Yau, Yav, Yaw, Yax, Ybc, Ybd, Yba, Ybb, Yzz, tyW]
      exact ret1 3 own rfl (by show 3 ≤ 4; decide) rfl (.pure (.lit _)) (by simp [fullB, abx, lk]) (by simp [fullB, atk, lk])
  cases b
  · refine QCall.sub (hs := fullB g kn lx false) (r0 := .lit (.bool !c)) (av := [.agg (encE k), .ptr 2 0]) [0, 1, 2] rfl (by decide) (by simp; omega) (.cons (.pure (pureE k)) (.cons (.ptr (by show 2 < 3; decide) rfl) .nil))
      (allc ⟨by show 2 < 3; decide, _, h2, .cons (rcv_rn g kn lx false (by show 0 < 3; decide) rfl) .nil⟩ alln) alln ?_ base (.pure (.lit _))
    intro i _ _; rw [h1]; rfl
  · refine QCall.sub (hs := fullB g kn lx true) (r0 := .lit (.bool !c)) (av := [.agg (encE k), .ptr 2 0]) [0, 1, 2] rfl (by decide) (by simp; omega) (.cons (.pure (pureE k)) (.cons (.ptr (by show 2 < 3; decide) rfl) .nil))
      (allc ⟨by show 0 < 3; decide, _, h0 (0, askC g 1 kn.length lx) (.head _), askC_rn g 1 1 _ lx (by show 1 < 3; decide) rfl⟩ (allc ⟨by show 2 < 3; decide, _, h2, .cons (.ptr (by show 0 < 3; decide) rfl) .nil⟩ alln)) (allc ⟨by show 1 < 3; decide, _, by rw [h1]; rfl, rfl, rfl, knT_rn kn⟩ alln) ?_ base (.pure (.lit _))
    intro i hi hnn
    have hi : i < 3 := hi
    rw [h1]
    match i, hi with
    | 0, _ => rfl
    | 1, _ => simp [fullB, atk, lk] at hnn
    | 2, _ => rfl

theorem empty_spec (g : Gr) (kn : List Bool) (lx b : Bool) (hg : grsz g ≤ 1000000000) (hk : kn.length = g.rules.length) (e : El) (he : esz e ≤ 1000000000) :
    QCall Try.prog 18 [rcv g kn lx b, .agg (encE e)] (askB g kn lx b) (.lit (.bool (emp g.rules kn lx e))) := by
  match e with
  | .mk op name set lz (.mk gop gn gname gkids) kids level place =>
    have hsz : eszs kids ≤ 1000000000 := by simp only [esz] at he; omega
    have hlen : kids.length ≤ 1000000000 := by have := eszs_len kids; omega
    have ih : ∀ k ∈ kids, QCall Try.prog 18 [rcv g kn lx b, .agg (encE k)] (askB g kn lx b) (.lit (.bool (emp g.rules kn lx k))) := fun k hk' =>
      empty_spec g kn lx b hg hk k (by have := eszs_mem hk'; omega)
    have own := askB_own g kn lx b
    have pg := pureGr g
    have fin : ∀ {σ : St} {c : Bool}, 2 ≤ σ.hp.nx → lk σ.slots 4 = some (.lit (.bool c)) → (∀ p ∈ abx g kn lx b, lk σ.hp.boxes p.1 = some p.2) → (∀ p ∈ atk kn b, lk σ.hp.toks p.1 = some p.2) →
        ∃ σ', St.cp 2 σ σ' ∧ resK (resOf Try.prog σ' [.tmp 4]) (fun r h' => r = .lit (.bool c) ∧ h' = askB g kn lx b) σ'.hp := fun h1 h2 h3 h4 => ret1 4 own rfl h1 h2 (.pure (.lit _)) h3 h4
    have sub : ∀ {H : Hp}, (∀ p ∈ abx g kn lx b, lk H.boxes p.1 = some p.2) → H.toks = atk kn b → 2 ≤ H.nx → ∀ k ∈ kids, QCall Try.prog 18 [rcv g kn lx b, .agg (encE k)] H (.lit (.bool (emp g.rules kn lx k))) :=
      fun h1 h2 h3 k hk' => askB_sub (pureE k) (.lit _) h1 h2 h3 (ih k hk')
    have full : ∀ {H : Hp}, (∀ p ∈ abx g kn lx b, lk H.boxes p.1 = some p.2) → lk H.boxes 2 = some [rcv g kn lx b] → H.toks = atk kn b → 3 ≤ H.nx → ∀ k ∈ kids, QCall Try.prog 30 ([] ++ [.agg (encE k)] ++ [.ptr 2 0]) H (.lit (.bool !emp g.rules kn lx k)) :=
      fun h1 h2 h3 h4 k hk' => full_spec (ih k hk') h1 h2 h3 h4
    refine SCall_introC Try.func18 rfl Try.ntmps18 (rs := [.tmp 4]) rfl (by simp) (N := 2) rfl ?_
    cases b
    all_goals
      simp only [Xaa, Xab, Xac, Xad, Xae, Xaf, Xag, Xah, Xai, Xaj, Xak, Xal, Xam, Xan, Xao, Xap, Xaq, Xar, Xas, Xat, Xau, Xav, Xaw, Xax, Xay, Xaz, Xba, Xbb, awl, Xbc, Xbd, Xbe, Xbf, Xbg, Xbh, Xbi, Xbj, Xbk, Xbl, Xbm, Xbn, Xbo, Xbp, Xbq, ne_eq, srcRows, awo, aggEq, eqF, litEq, andO, qwl, qwo, qOp, Xbr, Xbs, Xbt, lop, Yaa, Yab, Xbu, Xbv, Xbw, oneK, Xbx, Xby, Xbz, Xca, Xcb, Xcc, Xcd, Xce, Xcf, Xcg, Xch, stepOp, Xci, Xcj, Xck, pairO, pureOp, heapOp, entry, slotsOf, ev, evL, evP, evO, lk, up, St.put, St.drop, constAV, cellAV, cellsAV, plain, binV, intBin, strBin, guardBit, boolOf, fnOf, intOfAV, bound, resOf, retV, moved, rowOf, valAt, Kd.agg, AV.cells, splice, places, fillAV, rowsFill, Hp.none, Yac, Yad, Yae, Yaf, ↓reduceIte, reduceCtorEq, Nat.reduceLT, Nat.reduceEqDiff, Nat.reduceAdd, Nat.reduceLeDiff, Nat.reducePow, Nat.reduceMul, Yay, Yaz, Yag, Yah, Yai, Yaj, Yak, Yal, Yam, Yan, Yao, Yap, Yaq, Yar, Yas, Yat, Yau, Yav, Yaw, Yax, Ybc, Ybd, Yba, Ybb, Yzz, tyW, encE, encEs_map, encGs_map, askB, rcv, abx, atk]
      refine .intro (fun h0 => ?_) (fun h0 => ?_)
      · have e0 : emp g.rules kn lx (El.mk op name set lz (Gd.mk gop gn gname gkids) kids level place) = (decide (callI g.rules lx name ≥ 0) && kn.getD (callI g.rules lx name).toNat false) := by
          have : op = 0 := by simpa using h0
          simp [emp, this]
        rw [e0]
        simp only [Xaa, Xab, Xac, Xad, Xae, Xaf, Xag, Xah, Xai, Xaj, Xak, Xal, Xam, Xan, Xao, Xap, Xaq, Xar, Xas, Xat, Xau, Xav, Xaw, Xax, Xay, Xaz, Xba, Xbb, awl, Xbc, Xbd, Xbe, Xbf, Xbg, Xbh, Xbi, Xbj, Xbk, Xbl, Xbm, Xbn, Xbo, Xbp, Xbq, ne_eq, srcRows, awo, aggEq, eqF, litEq, andO, qwl, qwo, qOp, Xbr, Xbs, Xbt, lop, Yaa, Yab, Xbu, Xbv, Xbw, oneK, Xbx, Xby, Xbz, Xca, Xcb, Xcc, Xcd, Xce, Xcf, Xcg, Xch, stepOp, Xci, Xcj, Xck, pairO, pureOp, heapOp, entry, slotsOf, ev, evL, evP, evO, lk, up, St.put, St.drop, constAV, cellAV, cellsAV, plain, binV, intBin, strBin, guardBit, boolOf, fnOf, intOfAV, bound, resOf, retV, moved, rowOf, valAt, Kd.agg, AV.cells, splice, places, fillAV, rowsFill, Hp.none, Yac, Yad, Yae, Yaf, ↓reduceIte, reduceCtorEq, Nat.reduceLT, Nat.reduceEqDiff, Nat.reduceAdd, Nat.reduceLeDiff, Nat.reducePow, Nat.reduceMul, Yay, Yaz, Yag, Yah, Yai, Yaj, Yak, Yal, Yam, Yan, Yao, Yap, Yaq, Yar, Yas, Yat, Yau, Yav, Yaw, Yax, Ybc, Ybd, Yba, Ybb, Yzz, tyW]
        refine aw_quietN (n := 89) rfl (by decide) mixed ?_
        simp only [Xaa, Xab, Xac, Xad, Xae, Xaf, Xag, Xah, Xai, Xaj, Xak, Xal, Xam, Xan, Xao, Xap, Xaq, Xar, Xas, Xat, Xau, Xav, Xaw, Xax, Xay, Xaz, Xba, Xbb, awl, Xbc, Xbd, Xbe, Xbf, Xbg, Xbh, Xbi, Xbj, Xbk, Xbl, Xbm, Xbn, Xbo, Xbp, Xbq, ne_eq, srcRows, awo, aggEq, eqF, litEq, andO, qwl, qwo, qOp, Xbr, Xbs, Xbt, lop, Yaa, Yab, Xbu, Xbv, Xbw, oneK, Xbx, Xby, Xbz, Xca, Xcb, Xcc, Xcd, Xce, Xcf, Xcg, Xch, stepOp, Xci, Xcj, Xck, pairO, pureOp, heapOp, entry, slotsOf, ev, evL, evP, evO, lk, up, St.put, St.drop, constAV, cellAV, cellsAV, plain, binV, intBin, strBin, guardBit, boolOf, fnOf, intOfAV, bound, resOf, retV, moved, rowOf, valAt, Kd.agg, AV.cells, splice, places, fillAV, rowsFill, Hp.none, Yac, Yad, Yae, Yaf, ↓reduceIte, reduceCtorEq, Nat.reduceLT, Nat.reduceEqDiff, Nat.reduceAdd, Nat.reduceLeDiff, Nat.reducePow, Nat.reduceMul, Yay, Yaz, Yag, Yah, Yai, Yaj, Yak, Yal, Yam, Yan, Yao, Yap, Yaq, Yar, Yas, Yat, Yau, Yav, Yaw, Yax, Ybc, Ybd, Yba, Ybb, Yzz, tyW, askC, askV]
        refine CallQ_pure call25 (spec25 g lx name hg) (by simp [Pure.lit]; exact pg) (.tup (by simp [Pure.lit])) ?_
        simp only [Xaa, Xab, Xac, Xad, Xae, Xaf, Xag, Xah, Xai, Xaj, Xak, Xal, Xam, Xan, Xao, Xap, Xaq, Xar, Xas, Xat, Xau, Xav, Xaw, Xax, Xay, Xaz, Xba, Xbb, awl, Xbc, Xbd, Xbe, Xbf, Xbg, Xbh, Xbi, Xbj, Xbk, Xbl, Xbm, Xbn, Xbo, Xbp, Xbq, ne_eq, srcRows, awo, aggEq, eqF, litEq, andO, qwl, qwo, qOp, Xbr, Xbs, Xbt, lop, Yaa, Yab, Xbu, Xbv, Xbw, oneK, Xbx, Xby, Xbz, Xca, Xcb, Xcc, Xcd, Xce, Xcf, Xcg, Xch, stepOp, Xci, Xcj, Xck, pairO, pureOp, heapOp, entry, slotsOf, ev, evL, evP, evO, lk, up, St.put, St.drop, constAV, cellAV, cellsAV, plain, binV, intBin, strBin, guardBit, boolOf, fnOf, intOfAV, bound, resOf, retV, moved, rowOf, valAt, Kd.agg, AV.cells, splice, places, fillAV, rowsFill, Hp.none, Yac, Yad, Yae, Yaf, ↓reduceIte, reduceCtorEq, Nat.reduceLT, Nat.reduceEqDiff, Nat.reduceAdd, Nat.reduceLeDiff, Nat.reducePow, Nat.reduceMul, Yay, Yaz, Yag, Yah, Yai, Yaj, Yak, Yal, Yam, Yan, Yao, Yap, Yaq, Yar, Yas, Yat, Yau, Yav, Yaw, Yax, Ybc, Ybd, Yba, Ybb, Yzz, tyW]
        cases hc : decide (callI g.rules lx name ≥ 0)
        · simp only [Xaa, Xab, Xac, Xad, Xae, Xaf, Xag, Xah, Xai, Xaj, Xak, Xal, Xam, Xan, Xao, Xap, Xaq, Xar, Xas, Xat, Xau, Xav, Xaw, Xax, Xay, Xaz, Xba, Xbb, awl, Xbc, Xbd, Xbe, Xbf, Xbg, Xbh, Xbi, Xbj, Xbk, Xbl, Xbm, Xbn, Xbo, Xbp, Xbq, ne_eq, srcRows, awo, aggEq, eqF, litEq, andO, qwl, qwo, qOp, Xbr, Xbs, Xbt, lop, Yaa, Yab, Xbu, Xbv, Xbw, oneK, Xbx, Xby, Xbz, Xca, Xcb, Xcc, Xcd, Xce, Xcf, Xcg, Xch, stepOp, Xci, Xcj, Xck, pairO, pureOp, heapOp, entry, slotsOf, ev, evL, evP, evO, lk, up, St.put, St.drop, constAV, cellAV, cellsAV, plain, binV, intBin, strBin, guardBit, boolOf, fnOf, intOfAV, bound, resOf, retV, moved, rowOf, valAt, Kd.agg, AV.cells, splice, places, fillAV, rowsFill, Hp.none, Yac, Yad, Yae, Yaf, ↓reduceIte, reduceCtorEq, Nat.reduceLT, Nat.reduceEqDiff, Nat.reduceAdd, Nat.reduceLeDiff, Nat.reducePow, Nat.reduceMul, Yay, Yaz, Yag, Yah, Yai, Yaj, Yak, Yal, Yam, Yan, Yao, Yap, Yaq, Yar, Yas, Yat, Yau, Yav, Yaw, Yax, Ybc, Ybd, Yba, Ybb, Yzz, tyW, Bool.false_and]
          exact fin (by show 2 ≤ 4; decide) rfl (by first | exact alln | exact allc rfl alln) (by first | exact alln | exact allc rfl alln)
        · have hge : callI g.rules lx name ≥ 0 := of_decide_eq_true hc
          have hlt : callI g.rules lx name < (kn.length : Int) := by
            rcases callI_lt g.rules lx name with h | h
            · omega
            · have : callI g.rules lx name = -1 := by
                have : g.rules = [] := List.length_eq_zero_iff.1 h
                simp [callI, this]
              omega
          have hn : (callI g.rules lx name).toNat < kn.length := by omega
          have hx := kn_get? hn
          have hxd := kn_getD hn
          simp only [Xaa, Xab, Xac, Xad, Xae, Xaf, Xag, Xah, Xai, Xaj, Xak, Xal, Xam, Xan, Xao, Xap, Xaq, Xar, Xas, Xat, Xau, Xav, Xaw, Xax, Xay, Xaz, Xba, Xbb, awl, Xbc, Xbd, Xbe, Xbf, Xbg, Xbh, Xbi, Xbj, Xbk, Xbl, Xbm, Xbn, Xbo, Xbp, Xbq, ne_eq, srcRows, awo, aggEq, eqF, litEq, andO, qwl, qwo, qOp, Xbr, Xbs, Xbt, lop, Yaa, Yab, Xbu, Xbv, Xbw, oneK, Xbx, Xby, Xbz, Xca, Xcb, Xcc, Xcd, Xce, Xcf, Xcg, Xch, stepOp, Xci, Xcj, Xck, pairO, pureOp, heapOp, entry, slotsOf, ev, evL, evP, evO, lk, up, St.put, St.drop, constAV, cellAV, cellsAV, plain, binV, intBin, strBin, guardBit, boolOf, fnOf, intOfAV, bound, resOf, retV, moved, rowOf, valAt, Kd.agg, AV.cells, splice, places, fillAV, rowsFill, Hp.none, Yac, Yad, Yae, Yaf, ↓reduceIte, reduceCtorEq, Nat.reduceLT, Nat.reduceEqDiff, Nat.reduceAdd, Nat.reduceLeDiff, Nat.reducePow, Nat.reduceMul, Yay, Yaz, Yag, Yah, Yai, Yaj, Yak, Yal, Yam, Yan, Yao, Yap, Yaq, Yar, Yas, Yat, Yau, Yav, Yaw, Yax, Ybc, Ybd, Yba, Ybb, Yzz, tyW, Bool.true_and, callF_eq hge, hge, hlt, knT, List.length_map, hx, hxd, bit, ge_iff_le]
          exact fin (by show 2 ≤ 4; decide) rfl (by first | exact alln | exact allc rfl alln) (by first | exact alln | exact allc rfl alln)
      · have n0 : op ≠ 0 := by simpa using h0
        simp only [Xaa, Xab, Xac, Xad, Xae, Xaf, Xag, Xah, Xai, Xaj, Xak, Xal, Xam, Xan, Xao, Xap, Xaq, Xar, Xas, Xat, Xau, Xav, Xaw, Xax, Xay, Xaz, Xba, Xbb, awl, Xbc, Xbd, Xbe, Xbf, Xbg, Xbh, Xbi, Xbj, Xbk, Xbl, Xbm, Xbn, Xbo, Xbp, Xbq, ne_eq, srcRows, awo, aggEq, eqF, litEq, andO, qwl, qwo, qOp, Xbr, Xbs, Xbt, lop, Yaa, Yab, Xbu, Xbv, Xbw, oneK, Xbx, Xby, Xbz, Xca, Xcb, Xcc, Xcd, Xce, Xcf, Xcg, Xch, stepOp, Xci, Xcj, Xck, pairO, pureOp, heapOp, entry, slotsOf, ev, evL, evP, evO, lk, up, St.put, St.drop, constAV, cellAV, cellsAV, plain, binV, intBin, strBin, guardBit, boolOf, fnOf, intOfAV, bound, resOf, retV, moved, rowOf, valAt, Kd.agg, AV.cells, splice, places, fillAV, rowsFill, Hp.none, Yac, Yad, Yae, Yaf, ↓reduceIte, reduceCtorEq, Nat.reduceLT, Nat.reduceEqDiff, Nat.reduceAdd, Nat.reduceLeDiff, Nat.reducePow, Nat.reduceMul, Yay, Yaz, Yag, Yah, Yai, Yaj, Yak, Yal, Yam, Yan, Yao, Yap, Yaq, Yar, Yas, Yat, Yau, Yav, Yaw, Yax, Ybc, Ybd, Yba, Ybb, Yzz, tyW]
        refine .intro (fun h1 => ?_) (fun h1 => ?_)
        · have e0 : emp g.rules kn lx (El.mk op name set lz (Gd.mk gop gn gname gkids) kids level place) = (lx && (name.toList == (⟨#[]⟩ : ByteArray).toList)) := by
            have : op = 1 := by simpa using h1
            simp [emp, this]
          rw [e0]
          simp only [Xaa, Xab, Xac, Xad, Xae, Xaf, Xag, Xah, Xai, Xaj, Xak, Xal, Xam, Xan, Xao, Xap, Xaq, Xar, Xas, Xat, Xau, Xav, Xaw, Xax, Xay, Xaz, Xba, Xbb, awl, Xbc, Xbd, Xbe, Xbf, Xbg, Xbh, Xbi, Xbj, Xbk, Xbl, Xbm, Xbn, Xbo, Xbp, Xbq, ne_eq, srcRows, awo, aggEq, eqF, litEq, andO, qwl, qwo, qOp, Xbr, Xbs, Xbt, lop, Yaa, Yab, Xbu, Xbv, Xbw, oneK, Xbx, Xby, Xbz, Xca, Xcb, Xcc, Xcd, Xce, Xcf, Xcg, Xch, stepOp, Xci, Xcj, Xck, pairO, pureOp, heapOp, entry, slotsOf, ev, evL, evP, evO, lk, up, St.put, St.drop, constAV, cellAV, cellsAV, plain, binV, intBin, strBin, guardBit, boolOf, fnOf, intOfAV, bound, resOf, retV, moved, rowOf, valAt, Kd.agg, AV.cells, splice, places, fillAV, rowsFill, Hp.none, Yac, Yad, Yae, Yaf, ↓reduceIte, reduceCtorEq, Nat.reduceLT, Nat.reduceEqDiff, Nat.reduceAdd, Nat.reduceLeDiff, Nat.reducePow, Nat.reduceMul, Yay, Yaz, Yag, Yah, Yai, Yaj, Yak, Yal, Yam, Yan, Yao, Yap, Yaq, Yar, Yas, Yat, Yau, Yav, Yaw, Yax, Ybc, Ybd, Yba, Ybb, Yzz, tyW, askC, askV]
          cases lx <;> simp only [Xaa, Xab, Xac, Xad, Xae, Xaf, Xag, Xah, Xai, Xaj, Xak, Xal, Xam, Xan, Xao, Xap, Xaq, Xar, Xas, Xat, Xau, Xav, Xaw, Xax, Xay, Xaz, Xba, Xbb, awl, Xbc, Xbd, Xbe, Xbf, Xbg, Xbh, Xbi, Xbj, Xbk, Xbl, Xbm, Xbn, Xbo, Xbp, Xbq, ne_eq, srcRows, awo, aggEq, eqF, litEq, andO, qwl, qwo, qOp, Xbr, Xbs, Xbt, lop, Yaa, Yab, Xbu, Xbv, Xbw, oneK, Xbx, Xby, Xbz, Xca, Xcb, Xcc, Xcd, Xce, Xcf, Xcg, Xch, stepOp, Xci, Xcj, Xck, pairO, pureOp, heapOp, entry, slotsOf, ev, evL, evP, evO, lk, up, St.put, St.drop, constAV, cellAV, cellsAV, plain, binV, intBin, strBin, guardBit, boolOf, fnOf, intOfAV, bound, resOf, retV, moved, rowOf, valAt, Kd.agg, AV.cells, splice, places, fillAV, rowsFill, Hp.none, Yac, Yad, Yae, Yaf, ↓reduceIte, reduceCtorEq, Nat.reduceLT, Nat.reduceEqDiff, Nat.reduceAdd, Nat.reduceLeDiff, Nat.reducePow, Nat.reduceMul, Yay, Yaz, Yag, Yah, Yai, Yaj, Yak, Yal, Yam, Yan, Yao, Yap, Yaq, Yar, Yas, Yat, Yau, Yav, Yaw, Yax, Ybc, Ybd, Yba, Ybb, Yzz, tyW, Bool.false_and, Bool.true_and]
          all_goals exact fin (by show 2 ≤ 4; decide) rfl (by first | exact alln | exact allc rfl alln) (by first | exact alln | exact allc rfl alln)
        · have n1 : op ≠ 1 := by simpa using h1
          simp only [Xaa, Xab, Xac, Xad, Xae, Xaf, Xag, Xah, Xai, Xaj, Xak, Xal, Xam, Xan, Xao, Xap, Xaq, Xar, Xas, Xat, Xau, Xav, Xaw, Xax, Xay, Xaz, Xba, Xbb, awl, Xbc, Xbd, Xbe, Xbf, Xbg, Xbh, Xbi, Xbj, Xbk, Xbl, Xbm, Xbn, Xbo, Xbp, Xbq, ne_eq, srcRows, awo, aggEq, eqF, litEq, andO, qwl, qwo, qOp, Xbr, Xbs, Xbt, lop, Yaa, Yab, Xbu, Xbv, Xbw, oneK, Xbx, Xby, Xbz, Xca, Xcb, Xcc, Xcd, Xce, Xcf, Xcg, Xch, stepOp, Xci, Xcj, Xck, pairO, pureOp, heapOp, entry, slotsOf, ev, evL, evP, evO, lk, up, St.put, St.drop, constAV, cellAV, cellsAV, plain, binV, intBin, strBin, guardBit, boolOf, fnOf, intOfAV, bound, resOf, retV, moved, rowOf, valAt, Kd.agg, AV.cells, splice, places, fillAV, rowsFill, Hp.none, Yac, Yad, Yae, Yaf, ↓reduceIte, reduceCtorEq, Nat.reduceLT, Nat.reduceEqDiff, Nat.reduceAdd, Nat.reduceLeDiff, Nat.reducePow, Nat.reduceMul, Yay, Yaz, Yag, Yah, Yai, Yaj, Yak, Yal, Yam, Yan, Yao, Yap, Yaq, Yar, Yas, Yat, Yau, Yav, Yaw, Yax, Ybc, Ybd, Yba, Ybb, Yzz, tyW]
          refine .intro (fun h5 => ?_) (fun h5 => ?_)
          · have e0 : emp g.rules kn lx (El.mk op name set lz (Gd.mk gop gn gname gkids) kids level place) = !(kids.any fun e => !emp g.rules kn lx e) := by
              have : op = 5 := by simpa using h5
              simp [emp, this, empAll_eq]
            rw [e0]
            simp only [Xaa, Xab, Xac, Xad, Xae, Xaf, Xag, Xah, Xai, Xaj, Xak, Xal, Xam, Xan, Xao, Xap, Xaq, Xar, Xas, Xat, Xau, Xav, Xaw, Xax, Xay, Xaz, Xba, Xbb, awl, Xbc, Xbd, Xbe, Xbf, Xbg, Xbh, Xbi, Xbj, Xbk, Xbl, Xbm, Xbn, Xbo, Xbp, Xbq, ne_eq, srcRows, awo, aggEq, eqF, litEq, andO, qwl, qwo, qOp, Xbr, Xbs, Xbt, lop, Yaa, Yab, Xbu, Xbv, Xbw, oneK, Xbx, Xby, Xbz, Xca, Xcb, Xcc, Xcd, Xce, Xcf, Xcg, Xch, stepOp, Xci, Xcj, Xck, pairO, pureOp, heapOp, entry, slotsOf, ev, evL, evP, evO, lk, up, St.put, St.drop, constAV, cellAV, cellsAV, plain, binV, intBin, strBin, guardBit, boolOf, fnOf, intOfAV, bound, resOf, retV, moved, rowOf, valAt, Kd.agg, AV.cells, splice, places, fillAV, rowsFill, Hp.none, Yac, Yad, Yae, Yaf, ↓reduceIte, reduceCtorEq, Nat.reduceLT, Nat.reduceEqDiff, Nat.reduceAdd, Nat.reduceLeDiff, Nat.reducePow, Nat.reduceMul, Yay, Yaz, Yag, Yah, Yai, Yaj, Yak, Yal, Yam, Yan, Yao, Yap, Yaq, Yar, Yas, Yat, Yau, Yav, Yaw, Yax, Ybc, Ybd, Yba, Ybb, Yzz, tyW]
            refine CallK_of call31 (contains_Elem kids (fun e => !emp g.rules kn lx e) hlen _ [] [.ptr 2 0] _ call30 (full (by first | exact alln | exact allc rfl alln) rfl rfl (by show 3 ≤ 4; decide))) ?_
            rintro r h' ⟨rfl, rfl⟩
            simp only [Xaa, Xab, Xac, Xad, Xae, Xaf, Xag, Xah, Xai, Xaj, Xak, Xal, Xam, Xan, Xao, Xap, Xaq, Xar, Xas, Xat, Xau, Xav, Xaw, Xax, Xay, Xaz, Xba, Xbb, awl, Xbc, Xbd, Xbe, Xbf, Xbg, Xbh, Xbi, Xbj, Xbk, Xbl, Xbm, Xbn, Xbo, Xbp, Xbq, ne_eq, srcRows, awo, aggEq, eqF, litEq, andO, qwl, qwo, qOp, Xbr, Xbs, Xbt, lop, Yaa, Yab, Xbu, Xbv, Xbw, oneK, Xbx, Xby, Xbz, Xca, Xcb, Xcc, Xcd, Xce, Xcf, Xcg, Xch, stepOp, Xci, Xcj, Xck, pairO, pureOp, heapOp, entry, slotsOf, ev, evL, evP, evO, lk, up, St.put, St.drop, constAV, cellAV, cellsAV, plain, binV, intBin, strBin, guardBit, boolOf, fnOf, intOfAV, bound, resOf, retV, moved, rowOf, valAt, Kd.agg, AV.cells, splice, places, fillAV, rowsFill, Hp.none, Yac, Yad, Yae, Yaf, ↓reduceIte, reduceCtorEq, Nat.reduceLT, Nat.reduceEqDiff, Nat.reduceAdd, Nat.reduceLeDiff, Nat.reducePow, Nat.reduceMul, Yay, Yaz, Yag, Yah, Yai, Yaj, Yak, Yal, Yam, Yan, Yao, Yap, Yaq, Yar, Yas, Yat, Yau, Yav, Yaw, Yax, Ybc, Ybd, Yba, Ybb, Yzz, tyW]
            exact fin (by show 2 ≤ 4; decide) rfl (by first | exact alln | exact allc rfl alln) (by first | exact alln | exact allc rfl alln)
          · have n5 : op ≠ 5 := by simpa using h5
            simp only [Xaa, Xab, Xac, Xad, Xae, Xaf, Xag, Xah, Xai, Xaj, Xak, Xal, Xam, Xan, Xao, Xap, Xaq, Xar, Xas, Xat, Xau, Xav, Xaw, Xax, Xay, Xaz, Xba, Xbb, awl, Xbc, Xbd, Xbe, Xbf, Xbg, Xbh, Xbi, Xbj, Xbk, Xbl, Xbm, Xbn, Xbo, Xbp, Xbq, ne_eq, srcRows, awo, aggEq, eqF, litEq, andO, qwl, qwo, qOp, Xbr, Xbs, Xbt, lop, Yaa, Yab, Xbu, Xbv, Xbw, oneK, Xbx, Xby, Xbz, Xca, Xcb, Xcc, Xcd, Xce, Xcf, Xcg, Xch, stepOp, Xci, Xcj, Xck, pairO, pureOp, heapOp, entry, slotsOf, ev, evL, evP, evO, lk, up, St.put, St.drop, constAV, cellAV, cellsAV, plain, binV, intBin, strBin, guardBit, boolOf, fnOf, intOfAV, bound, resOf, retV, moved, rowOf, valAt, Kd.agg, AV.cells, splice, places, fillAV, rowsFill, Hp.none, Yac, Yad, Yae, Yaf, ↓reduceIte, reduceCtorEq, Nat.reduceLT, Nat.reduceEqDiff, Nat.reduceAdd, Nat.reduceLeDiff, Nat.reducePow, Nat.reduceMul, Yay, Yaz, Yag, Yah, Yai, Yaj, Yak, Yal, Yam, Yan, Yao, Yap, Yaq, Yar, Yas, Yat, Yau, Yav, Yaw, Yax, Ybc, Ybd, Yba, Ybb, Yzz, tyW]
            refine .intro (fun h6 => ?_) (fun h6 => ?_)
            · have e0 : emp g.rules kn lx (El.mk op name set lz (Gd.mk gop gn gname gkids) kids level place) = kids.any (emp g.rules kn lx) := by
                have : op = 6 := by simpa using h6
                simp [emp, this, empAny_eq]
              rw [e0]
              simp only [Xaa, Xab, Xac, Xad, Xae, Xaf, Xag, Xah, Xai, Xaj, Xak, Xal, Xam, Xan, Xao, Xap, Xaq, Xar, Xas, Xat, Xau, Xav, Xaw, Xax, Xay, Xaz, Xba, Xbb, awl, Xbc, Xbd, Xbe, Xbf, Xbg, Xbh, Xbi, Xbj, Xbk, Xbl, Xbm, Xbn, Xbo, Xbp, Xbq, ne_eq, srcRows, awo, aggEq, eqF, litEq, andO, qwl, qwo, qOp, Xbr, Xbs, Xbt, lop, Yaa, Yab, Xbu, Xbv, Xbw, oneK, Xbx, Xby, Xbz, Xca, Xcb, Xcc, Xcd, Xce, Xcf, Xcg, Xch, stepOp, Xci, Xcj, Xck, pairO, pureOp, heapOp, entry, slotsOf, ev, evL, evP, evO, lk, up, St.put, St.drop, constAV, cellAV, cellsAV, plain, binV, intBin, strBin, guardBit, boolOf, fnOf, intOfAV, bound, resOf, retV, moved, rowOf, valAt, Kd.agg, AV.cells, splice, places, fillAV, rowsFill, Hp.none, Yac, Yad, Yae, Yaf, ↓reduceIte, reduceCtorEq, Nat.reduceLT, Nat.reduceEqDiff, Nat.reduceAdd, Nat.reduceLeDiff, Nat.reducePow, Nat.reduceMul, Yay, Yaz, Yag, Yah, Yai, Yaj, Yak, Yal, Yam, Yan, Yao, Yap, Yaq, Yar, Yas, Yat, Yau, Yav, Yaw, Yax, Ybc, Ybd, Yba, Ybb, Yzz, tyW]
              refine CallK_of call31 (contains_Elem kids (emp g.rules kn lx) hlen _ [rcv g kn lx _] [] _ call18 (sub (by first | exact alln | exact allc rfl alln) rfl (by show 2 ≤ 4; decide))) ?_
              rintro r h' ⟨rfl, rfl⟩
              simp only [Xaa, Xab, Xac, Xad, Xae, Xaf, Xag, Xah, Xai, Xaj, Xak, Xal, Xam, Xan, Xao, Xap, Xaq, Xar, Xas, Xat, Xau, Xav, Xaw, Xax, Xay, Xaz, Xba, Xbb, awl, Xbc, Xbd, Xbe, Xbf, Xbg, Xbh, Xbi, Xbj, Xbk, Xbl, Xbm, Xbn, Xbo, Xbp, Xbq, ne_eq, srcRows, awo, aggEq, eqF, litEq, andO, qwl, qwo, qOp, Xbr, Xbs, Xbt, lop, Yaa, Yab, Xbu, Xbv, Xbw, oneK, Xbx, Xby, Xbz, Xca, Xcb, Xcc, Xcd, Xce, Xcf, Xcg, Xch, stepOp, Xci, Xcj, Xck, pairO, pureOp, heapOp, entry, slotsOf, ev, evL, evP, evO, lk, up, St.put, St.drop, constAV, cellAV, cellsAV, plain, binV, intBin, strBin, guardBit, boolOf, fnOf, intOfAV, bound, resOf, retV, moved, rowOf, valAt, Kd.agg, AV.cells, splice, places, fillAV, rowsFill, Hp.none, Yac, Yad, Yae, Yaf, ↓reduceIte, reduceCtorEq, Nat.reduceLT, Nat.reduceEqDiff, Nat.reduceAdd, Nat.reduceLeDiff, Nat.reducePow, Nat.reduceMul, Yay, Yaz, Yag, Yah, Yai, Yaj, Yak, Yal, Yam, Yan, Yao, Yap, Yaq, Yar, Yas, Yat, Yau, Yav, Yaw, Yax, Ybc, Ybd, Yba, Ybb, Yzz, tyW]
              exact fin (by show 2 ≤ 4; decide) rfl (by first | exact alln | exact allc rfl alln) (by first | exact alln | exact allc rfl alln)
            · have n6 : op ≠ 6 := by simpa using h6
              simp only [Xaa, Xab, Xac, Xad, Xae, Xaf, Xag, Xah, Xai, Xaj, Xak, Xal, Xam, Xan, Xao, Xap, Xaq, Xar, Xas, Xat, Xau, Xav, Xaw, Xax, Xay, Xaz, Xba, Xbb, awl, Xbc, Xbd, Xbe, Xbf, Xbg, Xbh, Xbi, Xbj, Xbk, Xbl, Xbm, Xbn, Xbo, Xbp, Xbq, ne_eq, srcRows, awo, aggEq, eqF, litEq, andO, qwl, qwo, qOp, Xbr, Xbs, Xbt, lop, Yaa, Yab, Xbu, Xbv, Xbw, oneK, Xbx, Xby, Xbz, Xca, Xcb, Xcc, Xcd, Xce, Xcf, Xcg, Xch, stepOp, Xci, Xcj, Xck, pairO, pureOp, heapOp, entry, slotsOf, ev, evL, evP, evO, lk, up, St.put, St.drop, constAV, cellAV, cellsAV, plain, binV, intBin, strBin, guardBit, boolOf, fnOf, intOfAV, bound, resOf, retV, moved, rowOf, valAt, Kd.agg, AV.cells, splice, places, fillAV, rowsFill, Hp.none, Yac, Yad, Yae, Yaf, ↓reduceIte, reduceCtorEq, Nat.reduceLT, Nat.reduceEqDiff, Nat.reduceAdd, Nat.reduceLeDiff, Nat.reducePow, Nat.reduceMul, Yay, Yaz, Yag, Yah, Yai, Yaj, Yak, Yal, Yam, Yan, Yao, Yap, Yaq, Yar, Yas, Yat, Yau, Yav, Yaw, Yax, Ybc, Ybd, Yba, Ybb, Yzz, tyW]
              refine .intro (fun h9 => ?_) (fun h9 => ?_)
              · have e0 : emp g.rules kn lx (El.mk op name set lz (Gd.mk gop gn gname gkids) kids level place) = empHd g.rules kn lx kids := by
                  have : op = 9 := by simpa using h9
                  simp [emp, this]
                rw [e0]
                simp only [Xaa, Xab, Xac, Xad, Xae, Xaf, Xag, Xah, Xai, Xaj, Xak, Xal, Xam, Xan, Xao, Xap, Xaq, Xar, Xas, Xat, Xau, Xav, Xaw, Xax, Xay, Xaz, Xba, Xbb, awl, Xbc, Xbd, Xbe, Xbf, Xbg, Xbh, Xbi, Xbj, Xbk, Xbl, Xbm, Xbn, Xbo, Xbp, Xbq, ne_eq, srcRows, awo, aggEq, eqF, litEq, andO, qwl, qwo, qOp, Xbr, Xbs, Xbt, lop, Yaa, Yab, Xbu, Xbv, Xbw, oneK, Xbx, Xby, Xbz, Xca, Xcb, Xcc, Xcd, Xce, Xcf, Xcg, Xch, stepOp, Xci, Xcj, Xck, pairO, pureOp, heapOp, entry, slotsOf, ev, evL, evP, evO, lk, up, St.put, St.drop, constAV, cellAV, cellsAV, plain, binV, intBin, strBin, guardBit, boolOf, fnOf, intOfAV, bound, resOf, retV, moved, rowOf, valAt, Kd.agg, AV.cells, splice, places, fillAV, rowsFill, Hp.none, Yac, Yad, Yae, Yaf, ↓reduceIte, reduceCtorEq, Nat.reduceLT, Nat.reduceEqDiff, Nat.reduceAdd, Nat.reduceLeDiff, Nat.reducePow, Nat.reduceMul, Yay, Yaz, Yag, Yah, Yai, Yaj, Yak, Yal, Yam, Yan, Yao, Yap, Yaq, Yar, Yas, Yat, Yau, Yav, Yaw, Yax, Ybc, Ybd, Yba, Ybb, Yzz, tyW]
                refine aw_quietN (n := 89) rfl (by decide) mixed ?_
                cases kids with
                | nil =>
                  have z1 : decide (((0 : Nat) : Int) > 0) = false := by decide
                  simp only [Xaa, Xab, Xac, Xad, Xae, Xaf, Xag, Xah, Xai, Xaj, Xak, Xal, Xam, Xan, Xao, Xap, Xaq, Xar, Xas, Xat, Xau, Xav, Xaw, Xax, Xay, Xaz, Xba, Xbb, awl, Xbc, Xbd, Xbe, Xbf, Xbg, Xbh, Xbi, Xbj, Xbk, Xbl, Xbm, Xbn, Xbo, Xbp, Xbq, ne_eq, srcRows, awo, aggEq, eqF, litEq, andO, qwl, qwo, qOp, Xbr, Xbs, Xbt, lop, Yaa, Yab, Xbu, Xbv, Xbw, oneK, Xbx, Xby, Xbz, Xca, Xcb, Xcc, Xcd, Xce, Xcf, Xcg, Xch, stepOp, Xci, Xcj, Xck, pairO, pureOp, heapOp, entry, slotsOf, ev, evL, evP, evO, lk, up, St.put, St.drop, constAV, cellAV, cellsAV, plain, binV, intBin, strBin, guardBit, boolOf, fnOf, intOfAV, bound, resOf, retV, moved, rowOf, valAt, Kd.agg, AV.cells, splice, places, fillAV, rowsFill, Hp.none, Yac, Yad, Yae, Yaf, ↓reduceIte, reduceCtorEq, Nat.reduceLT, Nat.reduceEqDiff, Nat.reduceAdd, Nat.reduceLeDiff, Nat.reducePow, Nat.reduceMul, Yay, Yaz, Yag, Yah, Yai, Yaj, Yak, Yal, Yam, Yan, Yao, Yap, Yaq, Yar, Yas, Yat, Yau, Yav, Yaw, Yax, Ybc, Ybd, Yba, Ybb, Yzz, tyW, List.map_nil, empHd, z1]
                  exact fin (by show 2 ≤ 4; decide) rfl (by first | exact alln | exact allc rfl alln) (by first | exact alln | exact allc rfl alln)
                | cons k l =>
                  have z1 : decide ((((l.map encE).length + 1 : Nat) : Int) > 0) = true := decide_eq_true (by omega)
                  have z2 : (0 : Int) < (((l.map encE).length + 1 : Nat) : Int) := by omega
                  have z3 : (0 : Int).toNat = 0 := rfl
                  simp only [Xaa, Xab, Xac, Xad, Xae, Xaf, Xag, Xah, Xai, Xaj, Xak, Xal, Xam, Xan, Xao, Xap, Xaq, Xar, Xas, Xat, Xau, Xav, Xaw, Xax, Xay, Xaz, Xba, Xbb, awl, Xbc, Xbd, Xbe, Xbf, Xbg, Xbh, Xbi, Xbj, Xbk, Xbl, Xbm, Xbn, Xbo, Xbp, Xbq, ne_eq, srcRows, awo, aggEq, eqF, litEq, andO, qwl, qwo, qOp, Xbr, Xbs, Xbt, lop, Yaa, Yab, Xbu, Xbv, Xbw, oneK, Xbx, Xby, Xbz, Xca, Xcb, Xcc, Xcd, Xce, Xcf, Xcg, Xch, stepOp, Xci, Xcj, Xck, pairO, pureOp, heapOp, entry, slotsOf, ev, evL, evP, evO, lk, up, St.put, St.drop, constAV, cellAV, cellsAV, plain, binV, intBin, strBin, guardBit, boolOf, fnOf, intOfAV, bound, resOf, retV, moved, rowOf, valAt, Kd.agg, AV.cells, splice, places, fillAV, rowsFill, Hp.none, Yac, Yad, Yae, Yaf, ↓reduceIte, reduceCtorEq, Nat.reduceLT, Nat.reduceEqDiff, Nat.reduceAdd, Nat.reduceLeDiff, Nat.reducePow, Nat.reduceMul, Yay, Yaz, Yag, Yah, Yai, Yaj, Yak, Yal, Yam, Yan, Yao, Yap, Yaq, Yar, Yas, Yat, Yau, Yav, Yaw, Yax, Ybc, Ybd, Yba, Ybb, Yzz, tyW, List.map_cons, empHd, encE_length, encE_take, List.getD_cons_zero, z1, z2, z3, Int.le_refl, decide_true]
                  refine CallQ_intro (v := .lit (.bool (emp g.rules kn lx k))) call18 ?_ ?_
                  · exact sub (by first | exact alln | exact allc rfl alln) rfl (by show 2 ≤ 4; decide) k (by simp)
                  cases hb : emp g.rules kn lx k <;> simp only [Xaa, Xab, Xac, Xad, Xae, Xaf, Xag, Xah, Xai, Xaj, Xak, Xal, Xam, Xan, Xao, Xap, Xaq, Xar, Xas, Xat, Xau, Xav, Xaw, Xax, Xay, Xaz, Xba, Xbb, awl, Xbc, Xbd, Xbe, Xbf, Xbg, Xbh, Xbi, Xbj, Xbk, Xbl, Xbm, Xbn, Xbo, Xbp, Xbq, ne_eq, srcRows, awo, aggEq, eqF, litEq, andO, qwl, qwo, qOp, Xbr, Xbs, Xbt, lop, Yaa, Yab, Xbu, Xbv, Xbw, oneK, Xbx, Xby, Xbz, Xca, Xcb, Xcc, Xcd, Xce, Xcf, Xcg, Xch, stepOp, Xci, Xcj, Xck, pairO, pureOp, heapOp, entry, slotsOf, ev, evL, evP, evO, lk, up, St.put, St.drop, constAV, cellAV, cellsAV, plain, binV, intBin, strBin, guardBit, boolOf, fnOf, intOfAV, bound, resOf, retV, moved, rowOf, valAt, Kd.agg, AV.cells, splice, places, fillAV, rowsFill, Hp.none, Yac, Yad, Yae, Yaf, ↓reduceIte, reduceCtorEq, Nat.reduceLT, Nat.reduceEqDiff, Nat.reduceAdd, Nat.reduceLeDiff, Nat.reducePow, Nat.reduceMul, Yay, Yaz, Yag, Yah, Yai, Yaj, Yak, Yal, Yam, Yan, Yao, Yap, Yaq, Yar, Yas, Yat, Yau, Yav, Yaw, Yax, Ybc, Ybd, Yba, Ybb, Yzz, tyW, hb]
                  all_goals exact fin (by show 2 ≤ 4; decide) rfl (by first | exact alln | exact allc rfl alln) (by first | exact alln | exact allc rfl alln)
              · have e0 : emp g.rules kn lx (El.mk op name set lz (Gd.mk gop gn gname gkids) kids level place) = (op == 7 || op == 8 || op == 10) := by
                  have n9 : op ≠ 9 := by simpa using h9
                  simp [emp, n0, n1, n5, n6, n9]
                rw [e0]
                simp only [Xaa, Xab, Xac, Xad, Xae, Xaf, Xag, Xah, Xai, Xaj, Xak, Xal, Xam, Xan, Xao, Xap, Xaq, Xar, Xas, Xat, Xau, Xav, Xaw, Xax, Xay, Xaz, Xba, Xbb, awl, Xbc, Xbd, Xbe, Xbf, Xbg, Xbh, Xbi, Xbj, Xbk, Xbl, Xbm, Xbn, Xbo, Xbp, Xbq, ne_eq, srcRows, awo, aggEq, eqF, litEq, andO, qwl, qwo, qOp, Xbr, Xbs, Xbt, lop, Yaa, Yab, Xbu, Xbv, Xbw, oneK, Xbx, Xby, Xbz, Xca, Xcb, Xcc, Xcd, Xce, Xcf, Xcg, Xch, stepOp, Xci, Xcj, Xck, pairO, pureOp, heapOp, entry, slotsOf, ev, evL, evP, evO, lk, up, St.put, St.drop, constAV, cellAV, cellsAV, plain, binV, intBin, strBin, guardBit, boolOf, fnOf, intOfAV, bound, resOf, retV, moved, rowOf, valAt, Kd.agg, AV.cells, splice, places, fillAV, rowsFill, Hp.none, Yac, Yad, Yae, Yaf, ↓reduceIte, reduceCtorEq, Nat.reduceLT, Nat.reduceEqDiff, Nat.reduceAdd, Nat.reduceLeDiff, Nat.reducePow, Nat.reduceMul, Yay, Yaz, Yag, Yah, Yai, Yaj, Yak, Yal, Yam, Yan, Yao, Yap, Yaq, Yar, Yas, Yat, Yau, Yav, Yaw, Yax, Ybc, Ybd, Yba, Ybb, Yzz, tyW]
                cases h7 : (op == 7) <;> cases h8 : (op == 8) <;> cases h10 : (op == 10) <;> simp only [Xaa, Xab, Xac, Xad, Xae, Xaf, Xag, Xah, Xai, Xaj, Xak, Xal, Xam, Xan, Xao, Xap, Xaq, Xar, Xas, Xat, Xau, Xav, Xaw, Xax, Xay, Xaz, Xba, Xbb, awl, Xbc, Xbd, Xbe, Xbf, Xbg, Xbh, Xbi, Xbj, Xbk, Xbl, Xbm, Xbn, Xbo, Xbp, Xbq, ne_eq, srcRows, awo, aggEq, eqF, litEq, andO, qwl, qwo, qOp, Xbr, Xbs, Xbt, lop, Yaa, Yab, Xbu, Xbv, Xbw, oneK, Xbx, Xby, Xbz, Xca, Xcb, Xcc, Xcd, Xce, Xcf, Xcg, Xch, stepOp, Xci, Xcj, Xck, pairO, pureOp, heapOp, entry, slotsOf, ev, evL, evP, evO, lk, up, St.put, St.drop, constAV, cellAV, cellsAV, plain, binV, intBin, strBin, guardBit, boolOf, fnOf, intOfAV, bound, resOf, retV, moved, rowOf, valAt, Kd.agg, AV.cells, splice, places, fillAV, rowsFill, Hp.none, Yac, Yad, Yae, Yaf, ↓reduceIte, reduceCtorEq, Nat.reduceLT, Nat.reduceEqDiff, Nat.reduceAdd, Nat.reduceLeDiff, Nat.reducePow, Nat.reduceMul, Yay, Yaz, Yag, Yah, Yai, Yaj, Yak, Yal, Yam, Yan, Yao, Yap, Yaq, Yar, Yas, Yat, Yau, Yav, Yaw, Yax, Ybc, Ybd, Yba, Ybb, Yzz, tyW, h7, h8, h10, Bool.or_false, Bool.or_true, Bool.or_self, Bool.true_or]
                all_goals exact fin (by show 2 ≤ 4; decide) rfl (by first | exact alln | exact allc rfl alln) (by first | exact alln | exact allc rfl alln)
  termination_by SizeOf.sizeOf e
  decreasing_by simp_wf; have := List.sizeOf_lt_of_mem hk'; omega
end Go.Proofs.Ytogdlomemaoajaa
