/- fold.Tree. Conditions: those that each theorem names. -/
import Derived.Test.YtlifonlohiihiaaF5
namespace Go.Proofs.Ytlifonlohiihiaa
open Go.Ab
set_option linter.unusedSimpArgs false
set_option linter.unusedVariables false
set_option linter.unnecessarySimpa false

/-- A tree's cells, its kids told by K. -/
def cel : Tr → AV → List AV
  | .mk k r a t y o _, K => [.lit (.int .i8 k), .lit (.int .i64 r), .lit (.int .i64 a), .lit (.int .i64 t), .lit (.int .i64 y), .lit (.bool o), K]
/-- The state at the label. -/
def foldSt (t : Tr) (i : Nat) (N : Nat) (out : Tr) (fo : Bool) (K : AV) (tk : List (Nat × Tk)) : St :=
  ⟨[(1, .ptr 0 0), (2, .ptr 1 0), (3, .lit (.bool (t.kind == 0))), (4, .ptr 2 0), (5, .fn (.func 15) [] [.ptr 2 0]), (6, .lit (.int .i64 i)), (7, .lit (.bool fo))],
    ⟨[(0, enc t), (1, [.lit (.int .i8 0), .lit (.int .i64 0), .lit (.int .i64 0), .lit (.int .i64 0), .lit (.int .i64 0), .lit (.bool false), .vec [] true]), (2, cel out K)], tk, N⟩, 69⟩
def Tr.rule : Tr → Int | .mk _ r _ _ _ _ _ => r
def fst0 : Tr → Tr × Bool
  | .mk k r a t y o _ => (.mk (if k == 1 then 0 else k) r a t y o [], false)
def frun (t : Tr) (i : Nat) : Tr × Bool := (fks (t.kids.take i)).foldl (fstep (t.kind == 0) t.rule) (fst0 t)
def foldJ (t : Tr) (n : Nat) (σ : St) : Prop :=
  ∃ i N out fo K tk, frun t i = (out, fo) ∧ KT tk K out.kids ∧ out.kids.length ≤ tszs (t.kids.take i) ∧ 3 ≤ N ∧ i ≤ t.kids.length ∧ n = t.kids.length - i ∧ σ = foldSt t i N out fo K tk

theorem tszs_take_one (l : List Tr) (i : Nat) (x : Tr) (h : l[i]? = some x) : tszs (l.take (i + 1)) = tszs (l.take i) + tsz x := by
  rw [List.take_add_one, h, Option.toList_some, tszs_append]; simp [tszs]
/-- The code behind the label. -/
def scopeIn : Code → Option Code
  | .scope c => some c
  | .seq a b => match scopeIn a with
    | some c => some c
    | none => scopeIn b
  | .block _ c => scopeIn c
  | _ => none
noncomputable def rest6 : Option Code := (Try.f6.body.bind scopeIn).bind fun c => (cutAt 0 c).map fun p => p.2

theorem fld_eq (t : Tr) : fld t = (frun t t.kids.length).1.setOpen ((frun t t.kids.length).1.opn || ((frun t t.kids.length).2 && t.opn)) := by
  cases t
  simp only [fld, frun, fst0, Tr.kids, Tr.kind, Tr.rule, Tr.opn, List.take_length]
def Tr.fk : Tr → FK
  | .mk k r a t y o ks => ⟨k, a, o, fld (.mk k r a t y o ks), flds ks⟩
theorem fks_one (x : Tr) : fks [x] = [x.fk] := by cases x; simp [fks, Tr.fk]
theorem frun_succ (t : Tr) (i : Nat) (x : Tr) (h : t.kids[i]? = some x) : frun t (i + 1) = fstep (t.kind == 0) t.rule (frun t i) x.fk := by
  simp only [frun]
  rw [List.take_add_one, h, Option.toList_some, fks_append, List.foldl_append, fks_one]
  rfl

theorem expo_cel {tk : List (Nat × Tk)} {K : AV} {t : Tr} {bs : List (Nat × List AV)} {N : Nat} (h : KT tk K t.kids) : Expo ⟨bs, tk, N⟩ (.agg (cel t K)) (.agg (enc t)) := by
  rcases t with ⟨k, r, a, t, y, o, us⟩
  simp only [Tr.kids] at h
  refine expo_agg ?_
  iterate 6 refine expoL_cons (expo_pure (.lit _)) ?_
  refine expoL_cons ?_ expoL_nil
  rcases h with ⟨_, rfl⟩ | ⟨t', fz, rfl, rfl, _⟩
  · exact expo_full (pure_encs _)
  · exact expo_own (k := ⟨encs us, fz, 7⟩) (if_pos rfl) (encs_length _).symm (pure_encs _)

theorem pass_end (k r a tkn ty : Int) (o : Bool) (ks : List Tr) (hs : tsz (.mk k r a tkn ty o ks) ≤ 1000000000) (ih : ∀ q ∈ ks, PCall Try.prog 6 [.agg (enc q)] (.agg (enc (fld q))))
    (ihk : ∀ q ∈ ks, ∀ p ∈ q.kids, PCall Try.prog 6 [.agg (enc p)] (.agg (enc (fld p)))) (rest : Code) (hrest : rest6 = some rest) (i N : Nat) (k1 r1 a1 t1 y1 : Int) (o1 : Bool) (us : List Tr) (fo : Bool) (K : AV) (tk : List (Nat × Tk))
    (hrun : frun (.mk k r a tkn ty o ks) i = (.mk k1 r1 a1 t1 y1 o1 us, fo)) (hK : KT tk K us) (hkl : us.length ≤ tszs (ks.take i)) (hN : 3 ≤ N) (hi : i ≤ ks.length) (he : i = ks.length) :
    awp Try.prog rest (jumpK 0 (fun σ => ∃ m, m < ks.length - i ∧ foldJ (.mk k r a tkn ty o ks) m σ) (retK Try.prog [.cell 2 25] fun r' h' => Expo h' r' (.agg (enc (fld (.mk k r a tkn ty o ks)))))) (foldSt (.mk k r a tkn ty o ks) i N (.mk k1 r1 a1 t1 y1 o1 us) fo K tk) := by
  have e : rest6 = some _ := rfl
  rw [e] at hrest
  obtain rfl := Option.some.inj hrest
  clear e hrest
  have hf := fld_eq (.mk k r a tkn ty o ks)
  have hb : ((i : Int) == (ks.length : Int)) = true := by simp; omega
  have hi' : i = ks.length := he
  subst hi'
  simp only [Tr.kids, hrun, Tr.setOpen, Tr.opn] at hf
  rw [hf]
  simp only [awp_skip, awp_region, awp_draw, awp_seq, awp_cond, awp_block, awp_exit, awp_label, awp_goto, awp_ret, awp_loop, awp_scope, seqK_normal, seqK_ret, seqK_exit, seqK_goto, blockK_normal, blockK_ret, blockK_goto, blockK_exit, jumpK_normal, jumpK_ret, jumpK_exit, stayK_normal, stayK_ret, stayK_exit, retK_normal, retK_ret, awl, gwl_nil, gwl_plain, gwl_guard, guardK_true, guardK_false, SplitO_true, SplitO_false, SplitC_true, SplitC_false, SplitP_true, SplitP_false, condK_some, PickK_some, pickV_some, resK_some, ne_eq, srcRows, awo, aggEq, eqF, litEq, andO, qwl, qwo, qOp, callQ_some, walkT_leaf, walkT_last, walkT_alt, oneK, retW_normal, retW_ret, cutK_normal, cutK_ret, jumpK_goto, stepOp, stepK_val, stepK_none, callK_some, pairO, pureOp, heapOp, entry, slotsOf, ev, evL, evP, evO, lk, up, St.put, St.drop, constAV, cellAV, cellsAV, plain, binV, intBin, strBin, guardBit, boolOf, fnOf, intOfAV, bound, resOf, retV, moved, rowOf, valAt, Kd.agg, AV.cells, splice, places, fillAV, rowsFill, Hp.none, Option.bind_some, Option.bind_none, Option.map_some, Option.map_none, ↓reduceIte, reduceCtorEq, Nat.reduceLT, Nat.reduceEqDiff, Nat.reduceAdd, Nat.reduceLeDiff, Nat.reducePow, Nat.reduceMul, Nat.zero_add, Nat.add_zero, List.getElem?_toArray, List.getElem?_cons_succ, List.getElem?_cons_zero, List.length_cons, List.length_nil, List.drop_succ_cons, List.drop_zero, List.drop_nil, List.take_succ_cons, List.take_zero, List.take_nil, List.cons_append, List.nil_append, List.append_nil, List.set_cons_succ, List.set_cons_zero, List.replicate_succ, List.replicate_zero, and_self, and_true, true_and, Nat.le_refl, Nat.one_ne_zero, not_false_eq_true, not_true_eq_false, true_or, or_true, false_or, or_false, Bool.not_true, Bool.not_false, ty2, ty3, ty4, ty5, ty6, ty7, ty8, ty9, ty10, ty11, ty12, ty13, ty14, ty15, ty16, ty17, ty18, ty19, ty21, ty22, ty23, ty24, ty25, ty38, ty39, nmOk39, ty44, ty45, ty46, ty47, ty48, ty50, ty51, ty52, ty54, ty55, ty56, ty57, ty58, foldSt, cel, enc, Tr.kind, encs_length, hb]
  cases o1 <;> cases fo <;> simp only [awp_skip, awp_region, awp_draw, awp_seq, awp_cond, awp_block, awp_exit, awp_label, awp_goto, awp_ret, awp_loop, awp_scope, seqK_normal, seqK_ret, seqK_exit, seqK_goto, blockK_normal, blockK_ret, blockK_goto, blockK_exit, jumpK_normal, jumpK_ret, jumpK_exit, stayK_normal, stayK_ret, stayK_exit, retK_normal, retK_ret, awl, gwl_nil, gwl_plain, gwl_guard, guardK_true, guardK_false, SplitO_true, SplitO_false, SplitC_true, SplitC_false, SplitP_true, SplitP_false, condK_some, PickK_some, pickV_some, resK_some, ne_eq, srcRows, awo, aggEq, eqF, litEq, andO, qwl, qwo, qOp, callQ_some, walkT_leaf, walkT_last, walkT_alt, oneK, retW_normal, retW_ret, cutK_normal, cutK_ret, jumpK_goto, stepOp, stepK_val, stepK_none, callK_some, pairO, pureOp, heapOp, entry, slotsOf, ev, evL, evP, evO, lk, up, St.put, St.drop, constAV, cellAV, cellsAV, plain, binV, intBin, strBin, guardBit, boolOf, fnOf, intOfAV, bound, resOf, retV, moved, rowOf, valAt, Kd.agg, AV.cells, splice, places, fillAV, rowsFill, Hp.none, Option.bind_some, Option.bind_none, Option.map_some, Option.map_none, ↓reduceIte, reduceCtorEq, Nat.reduceLT, Nat.reduceEqDiff, Nat.reduceAdd, Nat.reduceLeDiff, Nat.reducePow, Nat.reduceMul, Nat.zero_add, Nat.add_zero, List.getElem?_toArray, List.getElem?_cons_succ, List.getElem?_cons_zero, List.length_cons, List.length_nil, List.drop_succ_cons, List.drop_zero, List.drop_nil, List.take_succ_cons, List.take_zero, List.take_nil, List.cons_append, List.nil_append, List.append_nil, List.set_cons_succ, List.set_cons_zero, List.replicate_succ, List.replicate_zero, and_self, and_true, true_and, Nat.le_refl, Nat.one_ne_zero, not_false_eq_true, not_true_eq_false, true_or, or_true, false_or, or_false, Bool.not_true, Bool.not_false, ty2, ty3, ty4, ty5, ty6, ty7, ty8, ty9, ty10, ty11, ty12, ty13, ty14, ty15, ty16, ty17, ty18, ty19, ty21, ty22, ty23, ty24, ty25, ty38, ty39, nmOk39, ty44, ty45, ty46, ty47, ty48, ty50, ty51, ty52, ty54, ty55, ty56, ty57, ty58, Bool.true_or, Bool.false_or, Bool.true_and, Bool.false_and]
  · exact expo_cel (t := .mk k1 r1 a1 t1 y1 false us) hK
  · exact expo_cel (t := .mk k1 r1 a1 t1 y1 o us) hK
  · exact expo_cel (t := .mk k1 r1 a1 t1 y1 true us) hK
  · exact expo_cel (t := .mk k1 r1 a1 t1 y1 true us) hK

end Go.Proofs.Ytlifonlohiihiaa
