/- Comparisons with nil. Conditions: those that each theorem names. -/
import Derived.Test.YtfnmdmadaljjkaaSub
import Derived.Laws.Cover3
set_option linter.unusedVariables false
set_option linter.unusedSimpArgs false
namespace Go.Ab
section
variable {P : Program} {σ : St} {o : Oper}
theorem run_eql_slice_nil' (w : World) (t e : TypeId) (a : Option Addr) (l c : Nat) (h : P.underlying t = some (.slice e)) : (binOp .eql t (.slice a l c) (.slice none 0 0)).run P w = .ok (.bool a.isNone) w := by
  simp only [binOp]
  simp [run_equal_slice_nil w t e a l c h]

/-- A row against nil: it is nil only if it is empty. -/
theorem stepK_eql_nil {K : St → Prop} {d : Option Tmp} {t t' t2 : TypeId} {x : Operand} {pos : String} {af : Array Edge} {gu : Option (Nat × Bool)} {xs : List (List AV)} {f : Bool} {ti : TI} {e : TypeId}
    (hx : ev σ x = some (.vec xs f)) (ht : tyOf P t = some ti) (hk : ti.kd = .sl e) (h : ∀ b : Bool, (b = true → xs = []) → K (σ.put d (.lit (.bool b)))) :
    stepK P ⟨d, .binOp .eql t x (.const (.slice none 0 0)) t', t2, pos, af, gu⟩ none K σ := by
  intro g0 h0 w0 g w a Q r
  obtain ⟨i, dd, e1, e2, e3, _⟩ := tyOf_some ht
  rw [e3] at hk
  have := kdOf_sl hk; subst this
  have hv := r.ev hx
  have fin : ∀ (ad : Option Addr) (l c : Nat), a.eval x = .slice ad l c → (ad = none → xs = []) → ∃ b : Bool, (b = true → xs = []) ∧ Gives P ⟨d, .binOp .eql t x (.const (.slice none 0 0)) t', t2, pos, af, gu⟩ a w g (.lit (.bool b)) := by
    intro ad l c hu hn
    have k := run_eql_slice_nil' (P := P) w t e ad l c e2
    have hc : a.eval (.const (.slice none 0 0)) = .slice none 0 0 := rfl
    exact ⟨ad.isNone, fun q => hn (by simpa using q), .bool ad.isNone, by simp [execOp, hu, hc, k, eqGuard], .lit rfl⟩
  have got : ∃ b : Bool, (b = true → xs = []) ∧ Gives P ⟨d, .binOp .eql t x (.const (.slice none 0 0)) t', t2, pos, af, gu⟩ a w g (.lit (.bool b)) := by
    generalize hu : a.eval x = u at hv
    cases hv with
    | vecN => exact fin _ _ _ hu (fun _ => rfl)
    | vecE _ => exact fin _ _ _ hu (fun _ => rfl)
    | vec => exact fin _ _ _ hu (fun q => by cases q)
  obtain ⟨b, hb, u, q1, q2⟩ := got
  unfold Oper.wp
  rw [q1]
  exact ⟨_, g, h b hb, r.put d q2⟩
end
end Go.Ab
