/- Calls that make an owned slice, in any heap. Conditions: those that each theorem names. -/
import Derived.Test.YtfnmdmadaljjkaaCp
set_option linter.unusedVariables false
set_option linter.unusedSimpArgs false
namespace Go.Ab
section
variable {P : Program}

/-- A call that makes an owned slice, in any heap. -/
theorem SCall.own_sub {f : FuncId} {av : List AV} {n : Nat} {k : Tk} (hp : ∀ x ∈ k.xs, ∀ c ∈ x, Pure c) (ha : ∀ a ∈ av, Pure a) (hc : SCall P f av .none fun r h' => r = .own 0 n ∧ h' = ⟨[], [(0, k)], 1⟩) (H : Hp) :
    SCall P f av H fun r h' => r = .own H.nx n ∧ h' = ⟨H.boxes, H.toks ++ [(H.nx, k)], H.nx + 1⟩ := by
  refine SCall.sub (hs := .none) (fun i => i) (fun i j h1 => absurd h1 (Nat.not_lt_zero _)) (fun i h1 => absurd h1 (Nat.not_lt_zero _)) (.pure ha) (fun p hp => by cases hp) (fun p hp => by cases hp) hc ?_
  rintro r h' ⟨rfl, rfl⟩ _
  refine ⟨.own H.nx n, ⟨H.boxes, H.toks ++ [(H.nx, k)], H.nx + 1⟩, 1, Nat.le_refl _, rfl, .own (by show 0 < 0 + 1; decide) rfl, fun id cs' e => .inr ⟨e, fun i c h1 => by cases h1⟩, fun id k' e => ?_, rfl, rfl⟩
  simp only [lk_snoc] at e
  cases h1 : lk H.toks id with
  | some k2 => rw [h1] at e; simp at e; subst e; exact .inr ⟨rfl, fun i h2 => absurd h2 (Nat.not_lt_zero _)⟩
  | none =>
    rw [h1] at e
    simp only [Option.none_or] at e
    split at e
    · rename_i hid
      cases e
      exact .inl ⟨0, k, by show 0 < 0 + 1; decide, by rw [← hid]; rfl, rfl, rfl, rfl, .pure hp⟩
    · cases e

/-- A loop that counts to n; names given since it began may be given anew in each round. -/
theorem aw_forE {σ : St} {c : Code} {Q : Exit → St → Prop} {A : Type} (n N : Nat) (S : Nat → A → St) (Inv : Nat → A → Prop) (hN : σ.hp.nx ≤ N) (a0 : A) (hw : St.cp N σ (S 0 a0)) (h0 : Inv 0 a0)
    (round : ∀ i a, i < n → Inv i a → awp P c (seqK (fun σ1 => ∃ a', Inv (i + 1) a' ∧ St.cp N σ1 (S (i + 1) a')) Q) (S i a))
    (last : ∀ a, Inv n a → awp P c (seqK (fun _ => False) Q) (S n a)) : Aw P (.loop c) Q σ := by
  intro g0 h0' w0 g w a r
  have hg : g0.nx ≤ N := by
    have h1 : g0.nx ≤ g.nx := r.st.ext.nx
    rw [r.st.hp.nx] at h1; omega
  refine wp_loop_ghost (fun m a w => ∃ i x g, i ≤ n ∧ m = n - i ∧ Inv i x ∧ FRel g0 h0' w0 (S i x) g w a) n (let ⟨g', r'⟩ := hw g0 h0' w0 g w a hg r; ⟨0, a0, g', Nat.zero_le _, rfl, h0, r'⟩) (fun m a w ⟨i, x, g, hi, hm, hI, k2⟩ => ?_)
  rcases Nat.lt_or_ge i n with hlt | hge
  · refine wp_mono (awp_sound c (round i x hlt hI) g0 h0' w0 g w a k2) fun e a' w' hh => ?_
    obtain ⟨σ1, g1, q1, q2⟩ := hh
    cases e with
    | normal =>
      obtain ⟨x', l1, l2⟩ := q1
      obtain ⟨g2, q3⟩ := l2 g0 h0' w0 g1 w' a' hg q2
      exact ⟨n - (i + 1), by omega, i + 1, x', g2, hlt, rfl, l1, q3⟩
    | _ => exact ⟨σ1, g1, q1, q2⟩
  · have : i = n := by omega
    subst this
    refine wp_mono (awp_sound c (last x hI) g0 h0' w0 g w a k2) fun e a' w' hh => ?_
    obtain ⟨σ1, g1, q1, q2⟩ := hh
    cases e with
    | normal => exact q1.elim
    | _ => exact ⟨σ1, g1, q1, q2⟩
theorem St.cp.trans {N : Nat} {σ σ' σ'' : St} (h : St.cp N σ σ') (k : St.cp N σ' σ'') : St.cp N σ σ'' := fun g0 h0 w0 g w a q r => let ⟨g', r'⟩ := h g0 h0 w0 g w a q r; k g0 h0 w0 g' w a q r'

/-- What a call leaves, told otherwise. -/
theorem SCall.told {f : FuncId} {av : List AV} {h : Hp} {Q Q' : AV → Hp → Prop} (hc : SCall P f av h Q) (hq : ∀ r h', Q r h' → ∃ r1 h1, St.cp h.nx ⟨[(0, r)], h', 1⟩ ⟨[(0, r1)], h1, 1⟩ ∧ Q' r1 h1) : SCall P f av h Q' := by
  intro g w vals rel hv
  refine (hc g w vals rel hv).mono fun e w' ⟨v, r, h', g', e1, e2, e3, e4⟩ => ?_
  obtain ⟨r1, h1, hcp, hQ⟩ := hq r h' e4
  have hsl : ∀ s u, lk [(0, r)] s = some u → ∃ x, (#[v] : Array Value)[s]? = some x ∧ Rep g' x u := fun s u hu => by
    simp only [lk] at hu
    split at hu
    · rename_i hs; cases hu; subst hs; exact ⟨v, by simp, e2⟩
    · cases hu
  have fr : FRel g h w ⟨[(0, r)], h', 1⟩ g' w' { tmps := #[v], defers := [] } := ⟨e3, hsl, rfl, rfl⟩
  obtain ⟨g2, k⟩ := hcp g h w g' w' _ (by rw [rel.nx]; exact Nat.le_refl _) fr
  obtain ⟨u, k1, k2⟩ := k.slots 0 r1 (by simp [lk])
  simp at k1; subst k1
  exact ⟨v, r1, h1, g2, e1, k2, k.st, hQ⟩
end
end Go.Ab
