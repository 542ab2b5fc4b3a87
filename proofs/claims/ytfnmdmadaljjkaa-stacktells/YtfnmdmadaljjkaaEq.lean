/- Structs compared, field by field. Conditions: those that each theorem names. -/
import Derived.Test.YtfnmdmadaljjkaaMach
import Derived.Laws.StructEq
namespace Go.Ab

def namesOk (P : Program) (t : TypeId) : Bool :=
  (P.fieldsOf t).toList.all (fun f => f.name != "_") && !P.stoodInHeld t && !P.eqGuardType P.depth t

def litEq (k : Kd) (x y : AV) : Option Bool :=
  match k, x, y with
  | .int _, .lit (.int k a), .lit (.int k' b) => if k = k' then some (a == b) else none
  | .bool, .lit (.bool a), .lit (.bool b) => some (a == b)
  | .str, .lit (.string a), .lit (.string b) => some (a.toList == b.toList)
  | _, _, _ => none
def andO : Option Bool → Option Bool → Option Bool
  | some a, some b => some (a && b)
  | _, _ => none
def eqF (P : Program) : List (Nat × TypeId) → List AV → List AV → Option Bool
  | [], _, _ => some true
  | f :: fs, as, bs => match tyOf P f.2, as[f.1]?, bs[f.1]? with
    | some ti, some a, some b => andO (litEq ti.kd a b) (eqF P fs as bs)
    | _, _, _ => none
def aggEq (P : Program) (op : BinOp) (t : TypeId) (as bs : List AV) : Option AV :=
  match op, tyOf P t with
  | .eql, some ti => match ti.kd with
    | .st fs => if namesOk P t = true then (eqF P fs as bs).map fun r => .lit (.bool r) else none
    | _ => none
  | .neq, some ti => match ti.kd with
    | .st fs => if namesOk P t = true then (eqF P fs as bs).map fun r => .lit (.bool !r) else none
    | _ => none
  | _, _ => none

theorem kd_agg {d : TypeDesc} : (kdOf d).agg = d.isRow := by cases d <;> rfl

theorem run_isAgg {P : Program} {t : TypeId} {d : TypeDesc} (h : P.underlying t = some d) (w : World) : (isAgg t).run P w = .ok d.isRow w := by
  unfold isAgg
  rw [Sem.run_bind, run_underlying h w]
  cases d <;> rfl

section
variable {P : Program} {g : Gh}

theorem run_part_lit {w : World} {t : TypeId} {ti : TI} (ht : tyOf P t = some ti) (hk : ti.kd.agg = false) {xs : Array Value} {off : Nat} {v : Value} (h : xs[off]? = some v) : (part t xs off).run P w = .ok v w := by
  obtain ⟨i, d, e1, e2, e3, _⟩ := tyOf_some ht
  have hrow : d.isRow = false := by rw [← kd_agg, ← e3]; exact hk
  have hg : xs.getD off undef = v := by simp [Array.getD_eq_getD_getElem?, h]
  simp [part, Sem.run_bind, run_isAgg e2, hrow, h]

theorem litEq_sound {w : World} {d : Nat} {t : TypeId} {ti : TI} (ht : tyOf P t = some ti) {x y : AV} {u v : Value} {r : Bool} (h : litEq ti.kd x y = some r) (hu : Rep g u x) (hv : Rep g v y) : (Op.equalIn (d + 1) t u v).run P w = .ok r w ∧ ti.kd.agg = false := by
  obtain ⟨i, dd, e1, e2, e3, _⟩ := tyOf_some ht
  rw [e3] at h ⊢
  unfold litEq at h
  split at h
  · rename_i q k a k' b hq
    split at h
    · rename_i hk
      cases h; subst hk
      cases hu; cases hv
      have hd : dd = .int q := by cases dd <;> simp [kdOf] at hq; rw [hq]
      subst hd
      exact ⟨run_equalIn_int w d t _ q a b e2, rfl⟩
    · cases h
  · rename_i a b hq
    cases h
    cases hu; cases hv
    have hd : dd = .bool := by cases dd <;> simp [kdOf] at hq; rfl
    subst hd
    exact ⟨run_equalIn_bool w d t a b e2, rfl⟩
  · rename_i a b hq
    cases h
    cases hu; cases hv
    have hd : dd = .string := by cases dd <;> simp [kdOf] at hq; rfl
    subst hd
    exact ⟨run_equalIn_string w d t a b e2, rfl⟩
  · cases h

theorem eqF_sound {w : World} {d : Nat} {xs ys : Array Value} {as bs : List AV} (hx : RepL g xs.toList as) (hy : RepL g ys.toList bs) : ∀ (fs : List Field), (∀ f ∈ fs, f.name ≠ "_") → ∀ {r : Bool}, eqF P (fs.map fun f => (f.offset, f.type)) as bs = some r →
    (Op.eqFields (d + 1) xs ys fs).run P w = .ok r w
  | [], _, r, h => by cases h; rfl
  | f :: fs, hn, r, h => by
    simp only [List.map_cons, eqF] at h
    split at h
    · rename_i ti a b ht ha hb
      cases hl : litEq ti.kd a b with
      | none => rw [hl] at h; simp [andO] at h
      | some r1 =>
        cases hr : eqF P (fs.map fun f => (f.offset, f.type)) as bs with
        | none => rw [hr, hl] at h; simp [andO] at h
        | some r2 =>
          rw [hl, hr] at h
          simp only [andO, Option.some.injEq] at h
          have lx : xs.toList[f.offset]? = some (xs.toList[f.offset]'(by rw [hx.1]; exact (List.getElem?_eq_some_iff.1 ha).1)) := List.getElem?_eq_getElem _
          have ly : ys.toList[f.offset]? = some (ys.toList[f.offset]'(by rw [hy.1]; exact (List.getElem?_eq_some_iff.1 hb).1)) := List.getElem?_eq_getElem _
          obtain ⟨k1, k2⟩ := litEq_sound (w := w) (d := d) ht hl (hx.2 _ _ _ lx ha) (hy.2 _ _ _ ly hb)
          have p1 := run_part_lit (w := w) ht k2 (by rw [← Array.getElem?_toList]; exact lx)
          have p2 := run_part_lit (w := w) ht k2 (by rw [← Array.getElem?_toList]; exact ly)
          have ih := eqF_sound (w := w) (d := d) hx hy fs (fun f hf => hn f (by simp [hf])) hr
          simp only [Op.eqFields, if_pos (hn f (by simp)), Sem.run_bind, p1, p2, k1, Result.andThen_ok, Sem.run_ite]
          subst h
          cases r1 with
          | true => simp only [Bool.not_true, Bool.false_eq_true, if_false, Bool.true_and]; exact ih
          | false => simp
    · cases h

theorem aggEq_sound {w : World} {op : BinOp} {t : TypeId} {xs ys : Array Value} {as bs : List AV} {r : AV} (hx : RepL g xs.toList as) (hy : RepL g ys.toList bs) (h : aggEq P op t as bs = some r) :
    (∃ b, r = .lit (.bool b) ∧ (binOp op t (.agg xs) (.agg ys)).run P w = .ok (.bool b) w) ∧ ∀ p q, (eqGuard op t p q (.agg xs) (.agg ys)).run P w = .ok () w := by
  have main : ∀ {ti : TI} {fs : List (Nat × TypeId)}, tyOf P t = some ti → ti.kd = .st fs → namesOk P t = true → ∀ {b : Bool}, eqF P fs as bs = some b → (Op.equalIn 10000 t (.agg xs) (.agg ys)).run P w = .ok b w ∧ P.eqGuardType P.depth t = false := by
    intro ti fs ht hk hn b hb
    obtain ⟨i, d, e1, e2, e3, _⟩ := tyOf_some ht
    rw [e3] at hk
    have hd : ∃ F, d = .struct F ∧ fs = F.toList.map fun f => (f.offset, f.type) := by cases d <;> simp [kdOf] at hk; exact ⟨_, rfl, hk.symm⟩
    obtain ⟨F, rfl, rfl⟩ := hd
    have hf : P.fieldsOf t = F := by simp [Program.fieldsOf, e2]
    simp only [namesOk, hf, Bool.and_eq_true, Bool.not_eq_true', List.all_eq_true, bne_iff_ne] at hn
    have := run_equalIn_struct w 9999 t xs ys (by rw [hf]; exact e2) hn.1.2
    rw [show (10000 : Nat) = 9999 + 1 from rfl, this, hf]
    exact ⟨eqF_sound hx hy _ hn.1.1 hb, hn.2⟩
  unfold aggEq at h
  split at h
  · rename_i ti ht
    split at h
    · rename_i fs hk
      split at h
      · rename_i hn
        obtain ⟨b, hb, rfl⟩ := Option.map_eq_some_iff.1 h
        obtain ⟨k1, k2⟩ := main ht hk hn hb
        exact ⟨⟨b, rfl, by rw [run_eql_struct, k1]; rfl⟩, fun p q => run_eqGuard_agg w _ t p q xs ys k2⟩
      · cases h
    · cases h
  · rename_i ti ht
    split at h
    · rename_i fs hk
      split at h
      · rename_i hn
        obtain ⟨b, hb, rfl⟩ := Option.map_eq_some_iff.1 h
        obtain ⟨k1, k2⟩ := main ht hk hn hb
        exact ⟨⟨!b, rfl, by rw [run_neq_struct, k1]; rfl⟩, fun p q => run_eqGuard_agg w _ t p q xs ys k2⟩
      · cases h
    · cases h
  · cases h
end
end Go.Ab
