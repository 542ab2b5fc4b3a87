/- What is read of acts, of frames, of lists of them. Conditions: those that each theorem names. StackTells answers true for any acts, any stack and any number, and these read as they did: the given statement. Conditions: none. -/
import Derived.Test.YtfnmdmadaljjkaaXzz
import Derived.Test.YtfnmdmadaljjkaaSe
import Derived.Test.YtfnmdmadaljjkaaLaw
import Derived.Test.YtfnmdmadaljjkaaSl
import Derived.JoinedOf
import Derived.Handed
section
namespace Go.Proofs.Ytfnmdmadaljjkaa
open Go Go.Ab
set_option linter.unusedSimpArgs false
set_option linter.unusedVariables false
set_option maxRecDepth 20000


section
variable {H : Type} {en : TypeId × Value → H} {W : World}
theorem Rd.slice' {n : Nat} {t e : TypeId} {ti te : TI} (h : tyOf Try.prog t = some ti) (hk : ti.kd = .sl e) (he : tyOf Try.prog e = some te) (hpos : 0 < te.size) {T : Type} {f : T → List AV} {sz : T → Nat}
    (hE : ∀ k, k < n → Rd en Try.prog W k e (fun av m => ∃ t : T, av = f t ∧ sz t ≤ m)) :
    Rd en Try.prog W n t (fun av m => ∃ l : List T, av = [.vec (l.map f) false] ∧ (l.map sz).sum + 1 ≤ m ∧ l.length + 1 ≤ m) := by
  cases n with
  | zero => exact .zero
  | succ n =>
    refine (Rd.slice h hk he hpos (hE n (Nat.lt_succ_self n))).mono ?_
    rintro av m ⟨l, rfl, h1, h2, _⟩
    obtain ⟨ts, h3, h4⟩ := rows_of (f := f) (sz := sz) (fun a m h => h) l (fun p hp => (h1 p hp).1)
    have hl : l.length = ts.length := by have := congrArg List.length h3; simpa using this
    have h5 : l.length ≤ (l.map (·.2)).sum := by
      have : ∀ l : List (List AV × Nat), (∀ p ∈ l, 1 ≤ p.2) → l.length ≤ (l.map (·.2)).sum := by
        intro l
        induction l with
        | nil => intro _; simp
        | cons x l ih => intro hh; have := ih (fun p hp => hh p (by simp [hp])); have := hh x (by simp); simp only [List.length_cons, List.map_cons, List.sum_cons]; omega
      exact this l (fun p hp => (h1 p hp).2.1)
    exact ⟨ts, by rw [h3], by omega, by omega⟩
theorem Rd.struct' {n : Nat} {t : TypeId} {ti : TI} (h : tyOf Try.prog t = some ti) {fs : List (Nat × TypeId)} (hk : ti.kd = .st fs) {E : List AV → Nat → Prop} (hE : ∀ k, k < n → RdFs en Try.prog W k ti.size fs 0 E) :
    Rd en Try.prog W n t (fun av m => ∃ q, E av q ∧ q + 1 = m) := by
  cases n with
  | zero => exact .zero
  | succ n => exact .struct h hk (hE n (Nat.lt_succ_self n))

theorem rd_fr (n : Nat) : Rd en Try.prog W n 47 (fun av m => ∃ t : Int × Int, av = encP t ∧ 1 ≤ m) := by
  refine (Rd.struct' ty47 rfl fun k hk => .cons ty3 (.int ty3 rfl) (.cons ty3 (.int ty3 rfl) (.nil (by decide)))).mono ?_
  rintro av m ⟨q, h, rfl⟩
  obtain ⟨_, _, _, _, rfl, ⟨z1, _, rfl⟩, h, rfl⟩ := h
  obtain ⟨_, _, _, _, rfl, ⟨z2, _, rfl⟩, rfl, rfl⟩ := h
  exact ⟨(z1, z2), rfl, by omega⟩
theorem rd_frs (n : Nat) : Rd en Try.prog W n 23 (fun av m => ∃ l : Sk, av = [.vec (l.map encP) false] ∧ (l.map fun _ => 1).sum + 1 ≤ m ∧ l.length + 1 ≤ m) :=
  .slice' ty23 rfl ty47 (by decide) (f := encP) (sz := fun _ => 1) fun j _ => rd_fr j
theorem rd_act (n : Nat) : Rd en Try.prog W n 57 (fun av m => ∃ t : Ac, av = encAc t ∧ 1 ≤ m) := by
  refine (Rd.struct' ty57 rfl fun k hk => .cons ty3 (.int ty3 rfl) (.cons ty3 (.int ty3 rfl) (.cons ty3 (.int ty3 rfl) (.cons ty47 (rd_fr k) (.cons ty23 (rd_frs k) (.nil (by decide))))))).mono ?_
  rintro av m ⟨q, h, rfl⟩
  obtain ⟨_, _, _, _, rfl, ⟨z1, _, rfl⟩, h, rfl⟩ := h
  obtain ⟨_, _, _, _, rfl, ⟨z2, _, rfl⟩, h, rfl⟩ := h
  obtain ⟨_, _, _, _, rfl, ⟨z3, _, rfl⟩, h, rfl⟩ := h
  obtain ⟨_, _, _, _, rfl, ⟨f, rfl, _⟩, h, rfl⟩ := h
  obtain ⟨_, _, _, _, rfl, ⟨l, rfl, _, _⟩, rfl, rfl⟩ := h
  exact ⟨⟨z1, z2, z3, f, l⟩, rfl, by omega⟩
theorem rd_acts (n : Nat) : Rd en Try.prog W n 22 (fun av m => ∃ l : List Ac, av = [.vec (l.map encAc) false] ∧ (l.map fun _ => 1).sum + 1 ≤ m ∧ l.length + 1 ≤ m) :=
  .slice' ty22 rfl ty57 (by decide) (f := encAc) (sz := fun _ => 1) fun j _ => rd_act j
end
end Go.Proofs.Ytfnmdmadaljjkaa
end

section
namespace Go.Proofs.Ytfnmdmadaljjkaa
open Go Go.Ab Go.RowKit Go.ChangeShapes
set_option linter.unusedSimpArgs false
set_option linter.unusedVariables false
set_option maxRecDepth 20000

theorem contractTells (H : Type) (en : TypeId × Value → H) (W : World) (base : Nat) (args : Array Value) (ds gs : List (DataW H)) (before : List MemPlace)
    (hval : ∀ (j : Nat) t v, Try.f3.params[j]? = some t → args[j]? = some v → Value.okWide Try.prog W .any base t v)
    (hW : DataW.Whole en Try.prog Try.f3.params.toList Rows.stackTellsSpec.vars false W args.toList ds gs before) :
    Calls Try.prog 3 args W fun e W' => ∃ v, e = .returned v ∧ Rows.stackTellsSpec.post en Try.prog Try.f3 false true false false W args v W' := by
  have hW' := hW
  obtain ⟨p, q, hA, hV, rfl, hfz, hnd⟩ := hW
  have hA : DataW.TrodAll en Try.prog W 0 (fun _ => true) true Try.f3.params.toList args.toList ds p := hA
  rw [Try.params3] at hA
  obtain ⟨v0, vs0, d0, ds0, p0, q0, hargs, rfl, rfl, ⟨n, h0⟩, r0⟩ := trodAll_cons hA
  obtain ⟨v1, vs1, d1, ds1, p1, q1, rfl, rfl, rfl, ⟨n1, k0⟩, r1⟩ := trodAll_cons r0
  obtain ⟨v2, vs2, d2, ds2, p2, q2, rfl, rfl, rfl, _, r2⟩ := trodAll_cons r1
  obtain ⟨rfl, rfl, rfl⟩ := trodAll_nil r2
  obtain rfl : args = #[v0, v1, v2] := Array.toList_inj.1 hargs
  obtain ⟨rfl, rfl⟩ := trodVars_none hV
  obtain ⟨h1, av, h2, l, rfl, _⟩ := rd_acts n _ _ _ h0
  obtain ⟨k1, av1, k2, s, rfl, _⟩ := rd_frs n1 _ _ _ k0
  obtain ⟨k, rfl⟩ := Go.WideShapes.okWide_int (k := .i64) (by kernel_rfl) (hval 2 3 v2 (by kernel_rfl) rfl)
  obtain ⟨sa, sl, sc, rfl⟩ := Go.WideShapes.okWide_slice (e := 57) (by kernel_rfl) (hval 0 22 v0 (by kernel_rfl) rfl)
  have hok := hval 1 23 v1 (by kernel_rfl) rfl
  obtain ⟨ta, tl, tc, rfl⟩ := Go.WideShapes.okWide_slice (e := 47) (by kernel_rfl) hok
  have hrep0 : Rep (gm (memOf W)) (.slice sa sl sc) (.vec (l.map encAc) false) := h2.2 0 _ _ rfl rfl
  have hrep1 : Rep (gm (memOf W)) (.slice ta tl tc) (.vec (s.map encP) false) := k2.2 0 _ _ rfl rfl
  have hsl : s.length ≤ 9223372036854775807 := by
    have hu : Try.prog.underlying 23 = some (.slice 47) := by kernel_rfl
    have key : ∀ (xs : List (List AV)), Rep (gm (memOf W)) (.slice ta tl tc) (.vec xs false) → xs.length ≤ 9223372036854775807 := fun xs hx => by
      unfold Value.okWide at hok
      simp only [hu] at hok
      unfold Cell.okWide at hok
      simp only [hu] at hok
      unfold Cell.ok at hok
      simp only [hu] at hok
      cases hx with
      | vecN => simp
      | vecE h => simp
      | vec f e1 e2 e3 e4 e5 =>
        obtain ⟨q1, q2, _⟩ := hok
        have : (IntKind.i64.max : Int) = 9223372036854775807 := by decide
        omega
    have := key _ hrep1
    rwa [List.length_map] at this
  have hc : PCall Try.prog 3 [.vec (l.map encAc) false, .vec (s.map encP) false, .lit (.int .i64 k)] (.lit (.bool true)) :=
    PCall_of_SCall (SCall.mono (tells_spec l s k hsl) fun r' h' e => by obtain ⟨e1, e2⟩ := e; subst e1; subst e2; exact expo_pure (.lit _))
  refine (hc (memOf W) W #[.slice sa sl sc, .slice ta tl tc, .int .i64 k] (memOk_of W) (.cons hrep0 (.cons hrep1 (.cons (.lit rfl) .nil)))).mono fun e W' hh => ?_
  obtain ⟨v, m', rfl, hv, _, hkeep, _, _⟩ := hh
  cases hv
  exact ⟨_, rfl, law_post hW' rfl rfl (by kernel_rfl) (by kernel_rfl) (by kernel_rfl) (tb := 4) (by kernel_rfl) hkeep⟩

theorem own : ownKnob Try.prog.godebug = none := by kernel_rfl

set_option maxRecDepth 100000 in
theorem liftedTells (os : Os) (started : os.Started) (H : Type) (en : TypeId × Value → H) :
    ReturnsInHanded {} Try.checked os 3 .any (Rows.stackTellsSpec.pre6 en Try.prog Try.f3 Rows.stackTellsRow.domain false) (Rows.stackTellsSpec.post en Try.prog Try.f3 false true false false) := by
  refine returnsInHanded_of_change (C := Try.checked) own started (by kernel_rfl) Try.func3
    (ChangeSpec.witness6 (enc := en) (C := Try.checked) false ⟨#[], #[.slice none 0 0, .slice none 0 0, .int .i64 0], []⟩ 8 (by kernel_rfl) (by kernel_rfl) (by kernel_rfl) (by kernel_rfl)) ?_
  intro W base args ds gs before hval hW _ _
  exact contractTells H en W base args ds gs before hval hW

theorem stackTells_proved : Rows.StackTellsSaid :=
  OpenClaim.holds_of_wide 3 Try.f3 rfl rfl rfl rfl rfl rfl rfl ⟨rfl, rfl, rfl, rfl, rfl⟩ rfl rfl rfl rfl rfl (by kernel_rfl) Try.func3 (by kernel_rfl)
    (of_decide_eq_true (by kernel_rfl)) (by unfold Func.isWrapper; first | (rw [if_pos (by decide +kernel)]; kernel_rfl) | (rw [if_neg (by decide +kernel)]; exact ⟨rfl, rfl⟩))
    (fun os started H en _ => liftedTells os started H en)
#print axioms stackTells_proved
end Go.Proofs.Ytfnmdmadaljjkaa
end
