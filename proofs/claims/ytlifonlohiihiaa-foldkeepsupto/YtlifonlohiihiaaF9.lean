/- FoldKeeps answers true for any tree that is read of bulk at most 1048576, and the tree reads as it did: the given statement. Conditions: none. -/
import Derived.Test.YtlifonlohiihiaaF8
import Derived.Test.YtlifonlohiihiaaLaw
namespace Go.Proofs.Ytlifonlohiihiaa
open Go Go.Ab Go.RowKit Go.ChangeShapes
set_option linter.unusedSimpArgs false
set_option linter.unusedVariables false

theorem encs_map (l : List Tr) : encs l = l.map enc := by
  induction l with
  | nil => rfl
  | cons x l ih => simp [encs, ih]
theorem tszs_sum (l : List Tr) : tszs l = (l.map tsz).sum := by
  induction l with
  | nil => rfl
  | cons x l ih => simp [tszs, ih]

section
variable {H : Type} {en : TypeId × Value → H} {W : World}
theorem rd_tree : ∀ n, Rd en Try.prog W n 25 (fun av m => ∃ t : Tr, av = enc t ∧ tsz t ≤ m)
  | 0 => .zero
  | 1 => by
    refine (Rd.struct ty25 rfl (.cons ty22 (.int ty22 rfl) (.cons ty3 (.int ty3 rfl) (.cons ty3 (.int ty3 rfl) (.cons ty3 (.int ty3 rfl) (.cons ty3 (.int ty3 rfl) (.cons ty4 (.bool ty4 rfl) (.cons ty23 (E := fun _ _ => False) .zero (.nil (by decide)))))))))).mono ?_
    rintro av m ⟨q, h, rfl⟩
    obtain ⟨_, _, _, _, _, _, h, _⟩ := h
    obtain ⟨_, _, _, _, _, _, h, _⟩ := h
    obtain ⟨_, _, _, _, _, _, h, _⟩ := h
    obtain ⟨_, _, _, _, _, _, h, _⟩ := h
    obtain ⟨_, _, _, _, _, _, h, _⟩ := h
    obtain ⟨_, _, _, _, _, _, h, _⟩ := h
    obtain ⟨_, _, _, _, _, h, _, _⟩ := h
    exact h.elim
  | n + 2 => by
    refine (Rd.struct ty25 rfl (.cons ty22 (.int ty22 rfl) (.cons ty3 (.int ty3 rfl) (.cons ty3 (.int ty3 rfl) (.cons ty3 (.int ty3 rfl) (.cons ty3 (.int ty3 rfl) (.cons ty4 (.bool ty4 rfl) (.cons ty23 (.slice ty23 rfl ty25 (by decide) (rd_tree n)) (.nil (by decide)))))))))).mono ?_
    rintro av m ⟨q, h, rfl⟩
    obtain ⟨_, _, _, _, rfl, ⟨z1, _, rfl⟩, h, rfl⟩ := h
    obtain ⟨_, _, _, _, rfl, ⟨z2, _, rfl⟩, h, rfl⟩ := h
    obtain ⟨_, _, _, _, rfl, ⟨z3, _, rfl⟩, h, rfl⟩ := h
    obtain ⟨_, _, _, _, rfl, ⟨z4, _, rfl⟩, h, rfl⟩ := h
    obtain ⟨_, _, _, _, rfl, ⟨z5, _, rfl⟩, h, rfl⟩ := h
    obtain ⟨_, _, _, _, rfl, ⟨b, rfl⟩, h, rfl⟩ := h
    obtain ⟨_, _, _, _, rfl, ⟨l, rfl, hl, hs, _⟩, rfl, rfl⟩ := h
    obtain ⟨ts, h1, h2⟩ := rows_of (f := enc) (sz := tsz) (fun a m h => h) l (fun p hp => (hl p hp).1)
    refine ⟨.mk z1 z2 z3 z4 z5 b ts, ?_, ?_⟩
    · simp [enc, h1, encs_map]
    · simp only [tsz, tszs_sum]; omega
end

theorem contract (H : Type) (en : TypeId × Value → H) (W : World) (base : Nat) (args : Array Value) (ds gs : List (DataW H)) (before : List MemPlace)
    (hW : DataW.Whole en Try.prog Try.f3.params.toList Rows.foldKeepsSpec.vars false W args.toList ds gs before) (hk : Rows.uptoSmall H (ds ++ gs) = true) :
    Calls Try.prog 3 args W fun e W' => ∃ v, e = .returned v ∧ Rows.foldKeepsSpec.post en Try.prog Try.f3 false true false false W args v W' := by
  have hW' := hW
  obtain ⟨p, q, hA, hV, rfl, hfz, hnd⟩ := hW
  have hA : DataW.TrodAll en Try.prog W 0 (fun _ => true) true Try.f3.params.toList args.toList ds p := hA
  rw [Try.params3] at hA
  obtain ⟨v0, vs0, d0, ds0, p0, q0, hargs, rfl, rfl, ⟨n, h0⟩, r0⟩ := trodAll_cons hA
  obtain ⟨rfl, rfl, rfl⟩ := trodAll_nil r0
  obtain rfl : args = #[v0] := by cases args; simp_all
  obtain ⟨rfl, rfl⟩ := trodVars_none hV
  obtain ⟨h1, av, h2, t, rfl, h3⟩ := rd_tree n _ _ _ h0
  have hbd : tsz t ≤ 1000000000 := by
    have h : Rows.uptoBulkAll [d0] ≤ 1048576 := of_decide_eq_true hk
    simp only [Rows.uptoBulkAll] at h
    omega
  have hlen := h2.1
  rw [enc_length] at hlen
  obtain ⟨cs, rfl⟩ : ∃ cs, v0 = .agg cs := by
    cases v0 <;> simp [Value.cells] at hlen
    exact ⟨_, rfl⟩
  have hrep : Rep (gm (memOf W)) (.agg cs) (.agg (enc t)) := .agg h1 h2.1 h2.2
  refine (keeps_spec t hbd (memOf W) W #[.agg cs] (memOk_of W) (.cons hrep .nil)).mono fun e W' hh => ?_
  obtain ⟨v, m', rfl, hv, _, hkeep, _, _⟩ := hh
  cases hv
  exact ⟨_, rfl, law_post hW' rfl rfl (by kernel_rfl) (by kernel_rfl) (by kernel_rfl) (tb := 4) (by kernel_rfl) hkeep⟩

theorem own : ownKnob Try.prog.godebug = none := by kernel_rfl

set_option maxRecDepth 100000 in
theorem lifted (os : Os) (started : os.Started) (H : Type) (en : TypeId × Value → H) (F : Stop.Interp) :
    ReturnsInHanded {} Try.checked os 3 .any ((Rows.OpenSpec.upto Rows.foldKeepsSpec).pre6 en Try.prog Try.f3 Rows.foldKeepsUptoRow.domain false) (((Rows.OpenSpec.upto Rows.foldKeepsSpec).at F).post en Try.prog Try.f3 false true false false) := by
  refine returnsInHanded_of_cond (C := Try.checked) (s := Rows.OpenSpec.upto Rows.foldKeepsSpec) (k := Rows.uptoSmall) rfl own started (by kernel_rfl) Try.func3
    (OpenSpec.witness (enc := en) (C := Try.checked) (s := Rows.OpenSpec.upto Rows.foldKeepsSpec) (k := Rows.uptoSmall) rfl false ⟨#[], #[.agg #[.int .i8 0, .int .i64 0, .int .i64 0, .int .i64 0, .int .i64 0, .bool false, .slice none 0 0]], []⟩ 8 (by kernel_rfl) (by kernel_rfl) (by kernel_rfl)
      (x := ([.agg [.lit (.int .i8 0), .lit (.int .i64 0), .lit (.int .i64 0), .lit (.int .i64 0), .lit (.int .i64 0), .lit (.bool false), .nil]], [], [])) (by kernel_rfl) rfl (by kernel_rfl)) ?_
  intro W base args ds gs before hval hW _ hk _
  exact contract H en W base args ds gs before hW hk

theorem foldKeeps_proved : Rows.FoldKeepsUptoSaid :=
  OpenClaim.holds_of_cond 3 Try.f3 rfl rfl rfl rfl rfl rfl rfl ⟨rfl, rfl, rfl, rfl, rfl⟩ rfl rfl rfl rfl rfl (by kernel_rfl) Try.func3 (by kernel_rfl)
    (of_decide_eq_true (by kernel_rfl)) (by unfold Func.isWrapper; first | (rw [if_pos (by decide +kernel)]; kernel_rfl) | (rw [if_neg (by decide +kernel)]; exact ⟨rfl, rfl⟩))
    (fun os started H en _ F => lifted os started H en F)
#print axioms foldKeeps_proved
end Go.Proofs.Ytlifonlohiihiaa
