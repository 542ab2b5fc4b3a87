/- A scope of which the label is come to from ahead, and jumped to. Conditions: those that each theorem names. -/
import Derived.Test.YtfnmdmadaljjkaaFrame
set_option linter.unusedVariables false
set_option linter.unusedSimpArgs false
namespace Go.Ab

def cutAt (l : Nat) : Code → Option (Code × Code)
  | .seq (.label l') r => if l' = l then some (.skip, r) else (cutAt l r).map fun p => (.seq (.label l') p.1, p.2)
  | .seq a b => (cutAt l b).map fun p => (.seq a p.1, p.2)
  | _ => none

section
variable {P : Program} {σ : St}

def cutK (K : St → Prop) (R : Exit → St → Prop) : Exit → St → Prop
  | .normal, σ => K σ
  | e, σ => R e σ
theorem Xcf {K : St → Prop} {R : Exit → St → Prop} : cutK K R .normal σ = K σ := rfl
theorem Xcg {K : St → Prop} {R : Exit → St → Prop} : cutK K R .ret σ = R .ret σ := rfl

theorem cut_sound {l : Nat} {K : St → Prop} {R : Exit → St → Prop} {rest : Code} (hk : ∀ σ, K σ → Aw P rest R σ) : ∀ {c pre : Code} {σ : St}, cutAt l c = some (pre, rest) → awp P pre (cutK K R) σ → Aw P c R σ
  | .seq x y, pre, σ, h, hw => by
    have gen : (cutAt l y).map (fun p => (Code.seq x p.1, p.2)) = some (pre, rest) → Aw P (Code.seq x y) R σ := fun h => by
      obtain ⟨⟨p, r⟩, h1, h2⟩ := Option.map_eq_some_iff.1 h
      simp only [Option.some.injEq, Prod.mk.injEq] at h2
      obtain ⟨rfl, rfl⟩ := h2
      intro g0 h0 w0 g w a rel
      refine wp_seq (wp_mono (awp_sound x hw g0 h0 w0 g w a rel) fun e a' w' hh => ?_)
      obtain ⟨σ', g', k1, k2⟩ := hh
      cases e with
      | normal => exact cut_sound hk h1 k1 g0 h0 w0 g' w' a' k2
      | _ => exact ⟨σ', g', k1, k2⟩
    cases x with
    | label l' =>
      simp only [cutAt] at h
      split at h
      · simp only [Option.some.injEq, Prod.mk.injEq] at h
        obtain ⟨rfl, rfl⟩ := h
        intro g0 h0 w0 g w a rel
        exact wp_seq (wp_label (hk σ hw g0 h0 w0 g w a rel))
      · exact gen h
    | _ => exact gen h
  | .skip, _, _, h, _ => by simp [cutAt] at h
  | .region .., _, _, h, _ => by simp [cutAt] at h
  | .cond .., _, _, h, _ => by simp [cutAt] at h
  | .block .., _, _, h, _ => by simp [cutAt] at h
  | .exit .., _, _, h, _ => by simp [cutAt] at h
  | .label .., _, _, h, _ => by simp [cutAt] at h
  | .goto .., _, _, h, _ => by simp [cutAt] at h
  | .ret .., _, _, h, _ => by simp [cutAt] at h
  | .loop .., _, _, h, _ => by simp [cutAt] at h
  | .scope .., _, _, h, _ => by simp [cutAt] at h
  | .rangeFunc .., _, _, h, _ => by simp [cutAt] at h

/-- A scope: its beginning comes to the label; from there each pass comes to the label again, at less, or goes. -/
theorem aw_scope_cut {c pre rest : Code} {Q : Exit → St → Prop} (l : Nat) (hf : findLabel c l = some (.seq .skip rest)) (hc : cutAt l c = some (pre, rest)) (J : Nat → St → Prop) (n0 : Nat)
    (first : awp P pre (cutK (fun σ => ∃ σ', St.wk σ σ' ∧ J n0 σ') (jumpK l (fun σ => ∃ m, m < n0 ∧ J m σ) Q)) σ) (pass : ∀ n σ, J n σ → awp P rest (jumpK l (fun σ => ∃ m, m < n ∧ J m σ) Q) σ) : Aw P (.scope c) Q σ := by
  intro g0 h0 w0 g w a r
  let I : Nat → Act → World → Prop := fun n a w => ∃ σ g, J n σ ∧ FRel g0 h0 w0 σ g w a
  have start : Aw P c (jumpK l (fun σ => ∃ m, m < n0 ∧ J m σ) Q) σ := by
    refine cut_sound (K := fun σ => ∃ σ', St.wk σ σ' ∧ J n0 σ') (fun σ1 ⟨σ2, h1, h2⟩ => aw_wk h1 (awp_sound rest (pass n0 σ2 h2))) hc first
  refine wp_scope_jumps l (fun a w => ∃ n, I n a w) (fun a w => leastOf (fun n => I n a w)) hf ?_ ?_
  · exact wp_mono (start g0 h0 w0 g w a r) (post_jump (fun a w ⟨σ, g, ⟨n, _, h1⟩, h2⟩ => ⟨n, σ, g, h1, h2⟩))
  · intro a w hI
    obtain ⟨σ1, g1, k1, k2⟩ := (leastOf_spec hI).1
    refine wp_mono (awp_sound (.seq .skip rest) (pass _ σ1 k1) g0 h0 w0 g1 w a k2) (post_jump (fun a' w' ⟨σ, g, ⟨m, h0, h1⟩, h2⟩ => ?_))
    have hI' : I m a' w' := ⟨σ, g, h1, h2⟩
    exact ⟨⟨m, hI'⟩, Nat.lt_of_le_of_lt ((leastOf_spec ⟨m, hI'⟩).2 m hI') h0⟩
end
end Go.Ab
