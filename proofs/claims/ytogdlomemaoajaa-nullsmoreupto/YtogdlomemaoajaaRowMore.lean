/- NullsMore answers true for any grammar that is read of bulk at most 1048576 and any number, and the grammar reads as it did: the given statement. Conditions: none. -/
import Derived.Test.YtogdlomemaoajaaMore15
import Derived.Test.YtogdlomemaoajaaLaw
namespace Go.Proofs.Ytogdlomemaoajaa
open Go Go.Ab Go.RowKit Go.ChangeShapes
set_option linter.unusedSimpArgs false
set_option linter.unusedVariables false

theorem contractMore (H : Type) (en : TypeId × Value → H) (W : World) (base : Nat) (args : Array Value) (ds gs : List (DataW H)) (before : List MemPlace)
    (hval : ∀ (j : Nat) t v, Try.f3.params[j]? = some t → args[j]? = some v → Value.okWide Try.prog W .any base t v)
    (hW : DataW.Whole en Try.prog Try.f3.params.toList Rows.nullsMoreSpec.vars false W args.toList ds gs before) (hk : Rows.uptoSmall H (ds ++ gs) = true) :
    Calls Try.prog 3 args W fun e W' => ∃ v, e = .returned v ∧ Rows.nullsMoreSpec.post en Try.prog Try.f3 false true false false W args v W' := by
  have hW' := hW
  obtain ⟨p, q, hA, hV, rfl, hfz, hnd⟩ := hW
  have hA : DataW.TrodAll en Try.prog W 0 (fun _ => true) true Try.f3.params.toList args.toList ds p := hA
  rw [Try.params3] at hA
  obtain ⟨v0, vs0, d0, ds0, p0, q0, hargs, rfl, rfl, ⟨n, h0⟩, r0⟩ := trodAll_cons hA
  obtain ⟨v1, vs1, d1, ds1, p1, q1, rfl, rfl, rfl, _, r1⟩ := trodAll_cons r0
  obtain ⟨v2, vs2, d2, ds2, p2, q2, rfl, rfl, rfl, ⟨n2, k0⟩, r2⟩ := trodAll_cons r1
  obtain ⟨rfl, rfl, rfl⟩ := trodAll_nil r2
  obtain rfl : args = #[v0, v1, v2] := by cases args; simp_all
  obtain ⟨rfl, rfl⟩ := trodVars_none hV
  obtain ⟨h1, av, h2, t, rfl, h3⟩ := rd_gr n _ _ _ h0
  obtain ⟨z, rfl⟩ := Go.WideShapes.okWide_int (k := .i64) (by kernel_rfl) (hval 1 3 v1 (by kernel_rfl) rfl)
  obtain ⟨k1, av2, k2, t2, rfl, k3⟩ := rd_el n2 _ _ _ k0
  have h : Rows.uptoBulkAll [d0, d1, d2] ≤ 1048576 := of_decide_eq_true hk
  simp only [Rows.uptoBulkAll] at h
  have hbd : grsz t ≤ 50000000 := by omega
  have hbd2 : esz t2 ≤ 50000000 := by omega
  have hlen := h2.1
  rw [encGr_length] at hlen
  obtain ⟨cs, rfl⟩ : ∃ cs, v0 = .agg cs := by
    cases v0 <;> simp [Value.cells] at hlen
    exact ⟨_, rfl⟩
  have hrep : Rep (gm (memOf W)) (.agg cs) (.agg (encGr t)) := .agg h1 h2.1 h2.2
  have hlen2 := k2.1
  rw [encE_length] at hlen2
  obtain ⟨cs2, rfl⟩ : ∃ cs2, v2 = .agg cs2 := by
    cases v2 <;> simp [Value.cells] at hlen2
    exact ⟨_, rfl⟩
  have hrep2 : Rep (gm (memOf W)) (.agg cs2) (.agg (encE t2)) := .agg k1 k2.1 k2.2
  refine (spec3 t z t2 hbd hbd2 (memOf W) W #[.agg cs, .int .i64 z, .agg cs2] (memOk_of W) (.cons hrep (.cons (.lit rfl) (.cons hrep2 .nil)))).mono fun e W' hh => ?_
  obtain ⟨v, m', rfl, hv, _, hkeep, _, _⟩ := hh
  cases hv
  exact ⟨_, rfl, law_post hW' rfl rfl (by kernel_rfl) (by kernel_rfl) (by kernel_rfl) (tb := 4) (by kernel_rfl) hkeep⟩

theorem own : ownKnob Try.prog.godebug = none := by kernel_rfl

set_option maxRecDepth 100000 in
theorem liftedMore (os : Os) (started : os.Started) (H : Type) (en : TypeId × Value → H) (F : Stop.Interp) :
    ReturnsInHanded {} Try.checked os 3 .any ((Rows.OpenSpec.upto Rows.nullsMoreSpec).pre6 en Try.prog Try.f3 Rows.nullsMoreUptoRow.domain false) (((Rows.OpenSpec.upto Rows.nullsMoreSpec).at F).post en Try.prog Try.f3 false true false false) := by
  refine returnsInHanded_of_cond (C := Try.checked) (s := Rows.OpenSpec.upto Rows.nullsMoreSpec) (k := Rows.uptoSmall) rfl own started (by kernel_rfl) Try.func3
    (OpenSpec.witness (enc := en) (C := Try.checked) (s := Rows.OpenSpec.upto Rows.nullsMoreSpec) (k := Rows.uptoSmall) rfl false ⟨#[], #[.agg #[.string ⟨#[]⟩, .int .i64 0, .int .i64 0, .slice none 0 0, .slice none 0 0, .slice none 0 0, .slice none 0 0, .slice none 0 0], .int .i64 0, .agg #[.int .i8 0, .string ⟨#[]⟩, .slice none 0 0, .bool false, .int .i8 0, .int .i64 0, .string ⟨#[]⟩, .slice none 0 0, .slice none 0 0, .int .i64 0, .int .i64 0]], []⟩ 8 (by kernel_rfl) (by kernel_rfl) (by kernel_rfl)
      (x := ([.agg [.agg [.lit (.string []), .lit (.int .i64 0), .lit (.int .i64 0)], .nil, .nil, .nil, .nil, .nil], .lit (.int .i64 0), .agg [.lit (.int .i8 0), .lit (.string []), .nil, .lit (.bool false), .agg [.lit (.int .i8 0), .lit (.int .i64 0), .lit (.string []), .nil], .nil, .lit (.int .i64 0), .lit (.int .i64 0)]], [], [])) (by kernel_rfl) rfl (by kernel_rfl)) ?_
  intro W base args ds gs before hval hW _ hk _
  exact contractMore H en W base args ds gs before hval hW hk

theorem nullsMore_proved : Rows.NullsMoreUptoSaid :=
  OpenClaim.holds_of_cond 3 Try.f3 rfl rfl rfl rfl rfl rfl rfl ⟨rfl, rfl, rfl, rfl, rfl⟩ rfl rfl rfl rfl rfl (by kernel_rfl) Try.func3 (by kernel_rfl)
    (of_decide_eq_true (by kernel_rfl)) (by unfold Func.isWrapper; first | (rw [if_pos (by decide +kernel)]; kernel_rfl) | (rw [if_neg (by decide +kernel)]; exact ⟨rfl, rfl⟩))
    (fun os started H en _ F => liftedMore os started H en F)
#print axioms nullsMore_proved
end Go.Proofs.Ytogdlomemaoajaa
