/- LeftBack answers true for any rule that is read of bulk at most 1048576, and the rule reads as it did: the given statement. Conditions: none. -/
import Derived.Test.YtkbnnipiacajoaaLeft17
import Derived.Test.YtkbnnipiacajoaaLaw
namespace Go.Proofs.Ytkbnnipiacajoaa
open Go Go.Ab Go.RowKit Go.ChangeShapes
set_option linter.unusedSimpArgs false
set_option linter.unusedVariables false

theorem contractBack (H : Type) (en : TypeId × Value → H) (W : World) (base : Nat) (args : Array Value) (ds gs : List (DataW H)) (before : List MemPlace)
    (hW : DataW.Whole en Try.prog Try.f4.params.toList Rows.leftBackSpec.vars false W args.toList ds gs before) (hk : Rows.uptoSmall H (ds ++ gs) = true) :
    Calls Try.prog 4 args W fun e W' => ∃ v, e = .returned v ∧ Rows.leftBackSpec.post en Try.prog Try.f4 false true false false W args v W' := by
  have hW' := hW
  obtain ⟨p, q, hA, hV, rfl, hfz, hnd⟩ := hW
  have hA : DataW.TrodAll en Try.prog W 0 (fun _ => true) true Try.f4.params.toList args.toList ds p := hA
  rw [Try.params4] at hA
  obtain ⟨v0, vs0, d0, ds0, p0, q0, hargs, rfl, rfl, ⟨n, h0⟩, r0⟩ := trodAll_cons hA
  obtain ⟨rfl, rfl, rfl⟩ := trodAll_nil r0
  obtain rfl : args = #[v0] := by cases args; simp_all
  obtain ⟨rfl, rfl⟩ := trodVars_none hV
  obtain ⟨h1, av, h2, t, rfl, h3⟩ := rd_rl n _ _ _ h0
  have hbd : rsz t ≤ 100000000 := by
    have h : Rows.uptoBulkAll [d0] ≤ 1048576 := of_decide_eq_true hk
    simp only [Rows.uptoBulkAll] at h
    omega
  have hlen := h2.1
  rw [encRl_length] at hlen
  obtain ⟨cs, rfl⟩ : ∃ cs, v0 = .agg cs := by
    cases v0 <;> simp [Value.cells] at hlen
    exact ⟨_, rfl⟩
  have hrep : Rep (gm (memOf W)) (.agg cs) (.agg (encRl t)) := .agg h1 h2.1 h2.2
  refine (spec4 t hbd (memOf W) W #[.agg cs] (memOk_of W) (.cons hrep .nil)).mono fun e W' hh => ?_
  obtain ⟨v, m', rfl, hv, _, hkeep, _, _⟩ := hh
  cases hv
  exact ⟨_, rfl, law_post hW' rfl rfl (by kernel_rfl) (by kernel_rfl) (by kernel_rfl) (tb := 4) (by kernel_rfl) hkeep⟩

theorem own : ownKnob Try.prog.godebug = none := by kernel_rfl

set_option maxRecDepth 100000 in
theorem liftedBack (os : Os) (started : os.Started) (H : Type) (en : TypeId × Value → H) (F : Stop.Interp) :
    ReturnsInHanded {} Try.checked os 4 .any ((Rows.OpenSpec.upto Rows.leftBackSpec).pre6 en Try.prog Try.f4 Rows.leftBackUptoRow.domain false) (((Rows.OpenSpec.upto Rows.leftBackSpec).at F).post en Try.prog Try.f4 false true false false) := by
  refine returnsInHanded_of_cond (C := Try.checked) (s := Rows.OpenSpec.upto Rows.leftBackSpec) (k := Rows.uptoSmall) rfl own started (by kernel_rfl) Try.func4
    (OpenSpec.witness (enc := en) (C := Try.checked) (s := Rows.OpenSpec.upto Rows.leftBackSpec) (k := Rows.uptoSmall) rfl false ⟨#[], #[.agg #[.string ⟨#[]⟩, .bool false, .string ⟨#[]⟩, .slice none 0 0, .int .i64 0, .int .i64 0]], []⟩ 8 (by kernel_rfl) (by kernel_rfl) (by kernel_rfl)
      (x := ([.agg [.lit (.string []), .lit (.bool false), .lit (.string []), .nil, .lit (.int .i64 0), .lit (.int .i64 0)]], [], [])) (by kernel_rfl) rfl (by kernel_rfl)) ?_
  intro W base args ds gs before hval hW _ hk _
  exact contractBack H en W base args ds gs before hW hk

theorem leftBack_proved : Rows.LeftBackUptoSaid :=
  OpenClaim.holds_of_cond 4 Try.f4 rfl rfl rfl rfl rfl rfl rfl ⟨rfl, rfl, rfl, rfl, rfl⟩ rfl rfl rfl rfl rfl (by kernel_rfl) Try.func4 (by kernel_rfl)
    (of_decide_eq_true (by kernel_rfl)) (by unfold Func.isWrapper; first | (rw [if_pos (by decide +kernel)]; kernel_rfl) | (rw [if_neg (by decide +kernel)]; exact ⟨rfl, rfl⟩))
    (fun os started H en _ F => liftedBack os started H en F)
#print axioms leftBack_proved
end Go.Proofs.Ytkbnnipiacajoaa
