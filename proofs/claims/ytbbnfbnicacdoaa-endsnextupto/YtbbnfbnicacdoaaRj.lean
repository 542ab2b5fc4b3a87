/- EndsNext answers true for any net, number and items that are read of bulk at most 1048576, and these read as they did: the given statement. Conditions: none. -/
import Derived.Test.YtbbnfbnicacdoaaRi
import Derived.Carry
import Derived.ChangeSame
import Derived.JoinedCond
import Derived.OpenShut
section
namespace Go.Proofs.Ytbbnfbnicacdoaa
open Go Go.Ab
set_option linter.unusedSimpArgs false
set_option linter.unusedVariables false
set_option maxRecDepth 20000
set_option maxHeartbeats 4000000
theorem walk_at {α : Type} {n : Nt} {o : List Orc} {L : List It} {c : Cl} {opn : Bool} {fE : Nat} {cap cap' kc ac : List AV} {encA : α → List AV} {Fin : α → Prop} (W : Wm) (O : Om) (kb ab : Nat)
    (h : SCall Try.prog 36 [.ptr 0 0, kCl c, .lit (.bool opn), .fn (.func fE) [] cap] (HWk n o L kc ac W O) fun r h' => r = .tup [] ∧ ∃ a W O, WOk n o L W ∧ OOk n o L O ∧ Fin a ∧ h' = HWk n o L kc (encA a) W O)
    (hpa : ∀ a, ∀ v ∈ encA a, Ab.Pure v) (hpac : ∀ v ∈ ac, Ab.Pure v)
    (hkc : ∀ (σ : Nat → Nat), σ 0 = 0 → RnL σ 5 kc kc) (hcap : ∀ (σ : Nat → Nat), σ 3 = kb → σ 4 = ab → RnL σ 5 cap cap')
    (H : Hp) (d1 : 3 ≤ kb) (d2 : 3 ≤ ab) (d3 : kb ≠ ab) (l1 : kb < H.nx) (l2 : ab < H.nx) (h0 : lk H.boxes 0 = some (askC n o L 1 2)) (hk : lk H.boxes kb = some kc) (ha : lk H.boxes ab = some ac) (h1 : lk H.toks 1 = some (tokW W)) (h2 : lk H.toks 2 = some (tokO O))
    (n0 : lk H.toks 0 = none) (nk : lk H.toks kb = none) (na : lk H.toks ab = none) :
    SCall Try.prog 36 [.ptr 0 0, kCl c, .lit (.bool opn), .fn (.func fE) [] cap'] H fun r h' => r = .tup [] ∧ ∃ a W' O', WOk n o L W' ∧ OOk n o L O' ∧ Fin a ∧ h' = ⟨up H.boxes ab (encA a), up (up H.toks 1 (tokW W')) 2 (tokO O'), H.nx⟩ := by
  let ρ : Nat → Nat := fun i => if i = 3 then kb else if i = 4 then ab else i
  have r0 : ρ 0 = 0 := rfl
  have r1 : ρ 1 = 1 := rfl
  have r2 : ρ 2 = 2 := rfl
  have r3 : ρ 3 = kb := rfl
  have r4 : ρ 4 = ab := rfl
  have cases5 : ∀ i, i < 5 → i = 0 ∨ i = 1 ∨ i = 2 ∨ i = 3 ∨ i = 4 := fun i hi => by omega
  have hinj : ∀ i j, i < 5 → j < 5 → ρ i = ρ j → i = j := fun i j hi hj e => by
    rcases cases5 i hi with rfl | rfl | rfl | rfl | rfl <;> rcases cases5 j hj with rfl | rfl | rfl | rfl | rfl <;> simp only [r0, r1, r2, r3, r4] at e <;> omega
  have rnA : ∀ {σ : Nat → Nat}, σ 1 = 1 → σ 2 = 2 → RnL σ 5 (askC n o L 1 2) (askC n o L 1 2) := fun {σ} s1 s2 => by
    have p : ∀ {a}, Ab.Pure a → Rn σ 5 a a := fun h => .pure h
    unfold askC encN
    simp only [List.cons_append, List.nil_append]
    exact .cons (p (.vec (pure_rows pure_encB _))) (.cons (p (.vec (pure_rows pure_encB _))) (.cons (p (.vec (pure_rows pure_encB _))) (.cons (p (.vec (pure_rows pure_encNr _))) (.cons (p (.vec (pure_rows pure_encSt _))) (.cons (p (.vec (pure_rows pure_encO _))) (.cons (p (.vec (pure_rows pure_encI _))) (.cons (.om (by omega) s1) (.cons (.om (by omega) s2) .nil))))))))
  have hkt : kb ≠ 1 ∧ kb ≠ 2 ∧ ab ≠ 1 ∧ ab ≠ 2 := by omega
  refine SCall.sub (hs := HWk n o L kc ac W O) ρ hinj (fun i hi => ?_) (.cons (.ptr (by show 0 < 5; decide) rfl) (.cons (.pure (pure_kCl c)) (.cons (.pure (.lit _)) (.cons (.fn .nil (hcap ρ r3 r4)) .nil))))
    (allc ⟨by show 0 < 5; decide, _, h0, rnA rfl rfl⟩ (allc ⟨by show 3 < 5; decide, _, hk, hkc ρ rfl⟩ (allc ⟨by show 4 < 5; decide, _, ha, RnL.pure hpac⟩ alln)))
    (allc ⟨by show 1 < 5; decide, _, h1, rfl, rfl, .pure (pure_rowsW W)⟩ (allc ⟨by show 2 < 5; decide, _, h2, rfl, rfl, .pure (pure_rowsO O)⟩ alln)) h ?_
  · have hi : i < 5 := hi
    rcases cases5 i hi with rfl | rfl | rfl | rfl | rfl <;> simp only [r0, r1, r2, r3, r4] <;> omega
  · rintro r h' ⟨rfl, a, W', O', hW', hO', hF, rfl⟩ _
    have ii : ∀ i, i < 5 → ren ρ 5 H.nx i = ρ i := fun i h => by simp [ren, h]
    refine ⟨.tup [], ⟨up H.boxes ab (encA a), up (up H.toks 1 (tokW W')) 2 (tokO O'), H.nx⟩, 0, Nat.le_refl _, rfl, .pure (.tup alln), fun i cs' e => ?_, fun i k' e => ?_, rfl, a, W', O', hW', hO', hF, rfl⟩
    · have e : lk (up H.boxes ab (encA a)) i = some cs' := e
      rw [lk_up] at e
      by_cases qa : ab = i
      · rw [if_pos qa, ha] at e
        simp only [Option.map_some, Option.some.injEq] at e
        exact .inl ⟨4, encA a, by show 4 < 5; decide, qa, rfl, by rw [← e]; exact RnL.pure (hpa a)⟩
      · rw [if_neg qa] at e
        by_cases qk : kb = i
        · subst qk
          rw [hk] at e; cases e
          exact .inl ⟨3, _, by show 3 < 5; decide, rfl, rfl, hkc _ (by rfl)⟩
        · by_cases q0 : 0 = i
          · subst q0
            rw [h0] at e; cases e
            exact .inl ⟨0, _, by show 0 < 5; decide, rfl, rfl, rnA rfl rfl⟩
          · refine .inr ⟨e, fun j cj ej => ?_⟩
            have ej : lk [(0, askC n o L 1 2), (3, kc), (4, ac)] j = some cj := ej
            simp only [lk] at ej
            split at ej
            · rename_i q; subst q; exact q0
            · split at ej
              · rename_i q; subst q; exact qk
              · split at ej
                · rename_i q; subst q; exact qa
                · cases ej
    · have e : lk (up (up H.toks 1 (tokW W')) 2 (tokO O')) i = some k' := e
      rw [lk_up] at e
      by_cases q2 : 2 = i
      · rw [if_pos q2, lk_up, if_neg (by decide), h2] at e
        simp only [Option.map_some, Option.some.injEq] at e
        exact .inl ⟨2, tokO O', by show 2 < 5; decide, q2, rfl, by rw [← e], by rw [← e], by rw [← e]; exact .pure (pure_rowsO O')⟩
      · rw [if_neg q2, lk_up] at e
        by_cases q1 : 1 = i
        · rw [if_pos q1, h1] at e
          simp only [Option.map_some, Option.some.injEq] at e
          exact .inl ⟨1, tokW W', by show 1 < 5; decide, q1, rfl, by rw [← e], by rw [← e], by rw [← e]; exact .pure (pure_rowsW W')⟩
        · rw [if_neg q1] at e
          refine .inr ⟨e, fun j hj => ?_⟩
          have hj : j < 5 := hj
          rcases cases5 j hj with rfl | rfl | rfl | rfl | rfl
          · intro q; rw [r0] at q; rw [← q, n0] at e; cases e
          · exact q1
          · exact q2
          · intro q; rw [r3] at q; rw [← q, nk] at e; cases e
          · intro q; rw [r4] at q; rw [← q, na] at e; cases e
theorem whole_spec (n : Nt) (o : List Orc) (L : List It) (w : Wf n) (okn : NtOk n) (rk : Nat → Nat) (hrk : Rk n rk) (ho : o.length ≤ 1000000000) (hL : L.length ≤ 25) : ∀ c : Cl, c.rule < n.rules.length → c.pos ≤ L.length → AskCall n o L 23 c (maskV (whW n o L c)) := by
  refine cl_ind rk fun c hr hp ih => ?_
  have hW : ∀ s p e, Rs n o L c s p → e ∈ (n.states.getD s default).edges → e.op.1 = 2 → AskCall n o L 23 ⟨e.n.toNat, e.level, p⟩ (maskV (whW n o L ⟨e.n.toNat, e.level, p⟩)) := fun s p e hs he h2 => by
    obtain ⟨q1, q2, q3⟩ := cl_lt w hrk hs hr hp he h2
    exact ih _ q1 q2 q3
  have hwk := fun W0 O0 h1 h2 => walk_spec (α := Nat) n o L w okn ho hL c hr hp false 37 call37 [.ptr 3 0, .ptr 4 0] [.lit (.int .i64 (spN n c.rule : Int))] (fun w => [maskV w]) (fun w x => if x.1 = spN n c.rule then w ||| 2 ^ x.2 else w) (fun _ => false)
    (fun w Pr => w < W64 ∧ (∀ x ∈ Pr, Rs n o L c x.1 x.2) ∧ ∀ k, w.testBit k = true ↔ (spN n c.rule, k) ∈ Pr) (fun w => w = whW n o L c) (RnL.pure (allc (.lit _) alln)) (fun a => allc (pure_maskV _) alln)
    (fun H a x Pr hA hx b0 b3 b4 fb ft => whole1_spec x (spN n c.rule) a 3 4 H b3 b4 hA.1 (by omega) fb ft)
    (fun a Pr x ⟨i1, i2, i3⟩ hx _ => by
      obtain ⟨_, hx2, _⟩ := Rs.le w hx hr hp
      refine ⟨?_, ?_, fun k => ?_⟩
      · show (if x.1 = spN n c.rule then a ||| 2 ^ x.2 else a) < W64
        split
        · exact or_lt i1 (pow_lt (by omega))
        · exact i1
      · intro y hy
        rcases List.mem_append.1 hy with q | q
        · exact i2 y q
        · simp only [List.mem_singleton] at q; subst q; exact hx
      · simp only [List.mem_append, List.mem_singleton]
        split
        · rename_i q
          rw [Nat.testBit_or, Bool.or_eq_true, i3 k, Nat.testBit_two_pow, decide_eq_true_eq]
          constructor
          · rintro (h | h)
            · exact .inl h
            · exact .inr (by rw [← h, ← q])
          · rintro (h | h)
            · exact .inl h
            · exact .inr (by rw [← h])
        · rename_i q
          rw [i3 k]
          constructor
          · exact .inl
          · rintro (h | h)
            · exact h
            · exact absurd (by rw [← h]) q)
    (fun _ _ _ _ _ q => by cases q) (fun q => by cases q)
    (fun a Pr ⟨i1, i2, i3⟩ hall _ => by
      refine Nat.eq_of_testBit_eq fun k => ?_
      rw [Bool.eq_iff_iff, i3 k, whW_bit]
      constructor
      · intro h
        have := i2 _ h
        exact ⟨(Rs.le w this hr hp).2.1, this⟩
      · intro h; exact hall _ _ h.2)
    hW (fun q => by cases q) 0 ⟨by show 0 < W64; decide, fun x hx => (by cases hx), fun k => by simp⟩ W0 O0 h1 h2
  intro W O hW0 hO0
  obtain ⟨R, hR⟩ : ∃ R : AV → Hp → Prop, (fun r h' => r = maskV (whW n o L c) ∧ ∃ W' O', WOk n o L W' ∧ OOk n o L O' ∧ h' = hA n o L W' O') = R := ⟨_, rfl⟩
  have hRi : ∀ W' O', WOk n o L W' → OOk n o L O' → R (maskV (whW n o L c)) (hA n o L W' O') := fun W' O' q1 q2 => by rw [← hR]; exact ⟨rfl, W', O', q1, q2, rfl⟩
  rw [hR]
  refine SCall_introC Try.func23 rfl Try.ntmps23 (rs := [.tmp 4]) rfl (by simp) (N := 3) rfl ?_
  have hsp := w.stop hr
  obtain ⟨sp, hsp2⟩ : ∃ sp, spN n c.rule = sp := ⟨_, rfl⟩
  obtain ⟨r, hrr⟩ : ∃ r, n.rules.getD c.rule default = r := ⟨_, rfl⟩
  have hst2 : r.stop = (sp : Int) := by
    rw [← hsp2]; unfold spN; rw [hrr] at hsp ⊢; omega
  have hm := mask_rows' (ev := maskV) keyCl c W (P := Try.prog) (et := 77) zr77
  have hpu := fun W => mput_rows (P := Try.prog) (ev := maskV) keyCl c (whW n o L c) W
  have fin : ∀ (σ' : St) W' O', WOk n o L W' → OOk n o L O' → lk σ'.slots 4 = some (maskV (whW n o L c)) → lk σ'.hp.boxes 0 = some (askC n o L 1 2) → lk σ'.hp.toks 1 = some (tokW W') → lk σ'.hp.toks 2 = some (tokO O') → 3 ≤ σ'.hp.nx → σ'.nt = 50 → ∃ σ'', St.cp 3 σ' σ'' ∧ resK (resOf Try.prog σ'' [.tmp 4]) R σ''.hp := fun σ' W' O' f2 f3 s4 b0 t1 t2 hnx hnt => by
    refine ⟨⟨[(4, maskV (whW n o L c))], hA n o L W' O', 50⟩, cp_drop' (Nat.le_refl _) hnx hnt.symm (allc ⟨s4, .pure (pure_maskV _)⟩ alln) (allc ⟨by show 0 < 3; decide, b0, rn_askC n o L (show 2 < 3 by decide)⟩ alln) (allc ⟨by show 1 < 3; decide, t1, .pure (pure_rowsW W')⟩ (allc ⟨by show 2 < 3; decide, t2, .pure (pure_rowsO O')⟩ alln)), hRi W' O' f2 f3⟩
  simp -implicitDefEqProofs (disch := omega) only [Xzz, Yzy, Dzz, ↓reduceIte, reduceCtorEq, Nat.reduceLT, Nat.reduceEqDiff, Nat.reduceAdd, Nat.reduceLeDiff, Nat.reducePow, Nat.reduceMul, tyW, Azz, hA, kCl, encCl]
  refine aw_quietN (n := 50) rfl (by decide) mixed ?_
  have kc' : kCl c = .agg [.lit (.int .i64 (c.rule : Int)), .lit (.int .i64 c.level), .lit (.int .i64 (c.pos : Int))] := rfl
  rw [kc'] at hm hpu
  cases hl : lookM W c with
  | some v =>
    have hv := hW0 c v hl
    rw [hl] at hm
    simp only at hm
    subst hv
    simp -implicitDefEqProofs (disch := omega) only [Xzz, Yzy, Dzz, ↓reduceIte, reduceCtorEq, Nat.reduceLT, Nat.reduceEqDiff, Nat.reduceAdd, Nat.reduceLeDiff, Nat.reducePow, Nat.reduceMul, tyW, Azz, askC, encN, tokW, rowsW, hm, List.append_eq, List.cons_append, List.nil_append]
    exact fin _ W O hW0 hO0 rfl rfl rfl rfl (by show 3 ≤ 4; decide) rfl
  | none =>
    rw [hl] at hm
    simp only at hm
    simp -implicitDefEqProofs (disch := omega) only [Xzz, Yzy, Dzz, ↓reduceIte, reduceCtorEq, Nat.reduceLT, Nat.reduceEqDiff, Nat.reduceAdd, Nat.reduceLeDiff, Nat.reducePow, Nat.reduceMul, tyW, Azz, askC, encN, tokW, rowsW, hm, List.append_eq, List.cons_append, List.nil_append]
    have hsh : ((L.length : Int) + 1).fdiv (2 ^ min (Int.toNat 6) IntKind.i64.bits) = 0 := by
      have e1 : ((2 : Int) ^ min (Int.toNat 6) IntKind.i64.bits) = 64 := by decide
      rw [e1, Int.fdiv_eq_ediv_of_nonneg _ (by decide)]
      exact Int.ediv_eq_zero_of_lt (by omega) (by omega)
    have hw1 : IntKind.i64.wrap ((0 : Int) + 1) = 1 := by decide
    have hif : (0 ≤ (1 : Int) ∧ (1 : Int) ≤ 1 ∧ (1 : Int) ≤ 9223372036854775807 ∧ ((8 : Nat) : Int) * 1 ≤ 281474976710656) = True := by simp
    have hrep : List.replicate (Int.toNat 1) [AV.lit (.int .u64 0)] = [encW 0] := rfl
    have hrr2 := hrr
    simp -implicitDefEqProofs (disch := omega) only [Xzz, Yzy, Dzz, ↓reduceIte, reduceCtorEq, Nat.reduceLT, Nat.reduceEqDiff, Nat.reduceAdd, Nat.reduceLeDiff, Nat.reducePow, Nat.reduceMul, tyW, Azz, hsh, hw1, hif, hrep, if_true]
    refine aw_let (n := 50) (σ' := ⟨[(0, .ptr 0 0), (3, .ptr 3 0), (7, .ptr 5 0), (8, .ptr 6 0)], ⟨[(0, askC n o L 1 2), (3, encCl c), (5, [.own 4 1]), (6, [.lit (.int .i64 (sp : Int))])], [(1, tokW W), (2, tokO O), (4, ⟨[encW 0], 0, 1⟩)], 7⟩, 50⟩) 7 10 11 8 3 rfl rfl rfl rfl rfl (by decide) (by decide) mixed ?_ ?_
    · simp -implicitDefEqProofs (disch := omega) only [Xzz, Yzy, Dzz, ↓reduceIte, reduceCtorEq, Nat.reduceLT, Nat.reduceEqDiff, Nat.reduceAdd, Nat.reduceLeDiff, Nat.reducePow, Nat.reduceMul, tyW, Azz, lop, encNr, hrr, hst2]
      refine ⟨rfl, St.wk.cp (wk_lk (allc rfl (allc rfl (allc rfl (allc rfl alln)))) (fun _ _ e => e) (fun _ _ e => e) rfl rfl)⟩
    simp -implicitDefEqProofs (disch := omega) only [Xzz, Yzy, Dzz, ↓reduceIte, reduceCtorEq, Nat.reduceLT, Nat.reduceEqDiff, Nat.reduceAdd, Nat.reduceLeDiff, Nat.reducePow, Nat.reduceMul, tyW, Azz, encCl]
    refine CallK.freezeC (t := 4) (k := ⟨[encW 0], 0, 1⟩) rfl ⟨[(0, askC n o L 1 2), (3, encCl c), (5, [maskV 0]), (6, [.lit (.int .i64 (sp : Int))])], [(1, tokW W), (2, tokO O)], 7⟩ rfl
      (fun g cv => allc ⟨_, rfl, cvL_refl (.refl g) _⟩ (allc ⟨_, rfl, cvL_refl (.refl g) _⟩ (allc ⟨_, rfl, cvL_cons cv cvL_nil⟩ (allc ⟨_, rfl, cvL_refl (.refl g) _⟩ alln)))) (fun g => allc ⟨_, rfl, TkCv.refl g _⟩ (allc ⟨_, rfl, TkCv.refl g _⟩ alln)) ?_
    have hat := walk_at W O 6 5 (cap' := [.ptr 6 0, .ptr 5 0]) (hwk W O hW0 hO0) (fun a => allc (pure_maskV _) alln) (allc (pure_maskV _) alln) (fun σ _ => RnL.pure (allc (.lit _) alln)) (fun σ h3 h4 => .cons (.ptr (by decide) h3) (.cons (.ptr (by decide) h4) .nil))
      ⟨[(0, askC n o L 1 2), (3, encCl c), (5, [maskV 0]), (6, [.lit (.int .i64 (sp : Int))])], [(1, tokW W), (2, tokO O)], 7⟩ (by decide) (by decide) (by decide) (by show 6 < 7; decide) (by show 5 < 7; decide) rfl (by rw [hsp2]; rfl) rfl rfl rfl rfl rfl rfl
    rw [kc'] at hat
    refine CallK_of call36 hat ?_
    rintro r0 h' ⟨rfl, a, W', O', hW', hO', rfl, rfl⟩
    simp -implicitDefEqProofs (disch := omega) only [Xzz, Yzy, Dzz, ↓reduceIte, reduceCtorEq, Nat.reduceLT, Nat.reduceEqDiff, Nat.reduceAdd, Nat.reduceLeDiff, Nat.reducePow, Nat.reduceMul, tyW, Azz, encCl]
    refine aw_drawQ (n := 50) 6 (.alt 6 .leaf .nil) rfl (by decide) (by decide) mixed (by kernel_rfl) (by decide) ?_
    have hpu' := hpu W'
    simp -implicitDefEqProofs (disch := omega) only [Xzz, Yzy, Dzz, ↓reduceIte, reduceCtorEq, Nat.reduceLT, Nat.reduceEqDiff, Nat.reduceAdd, Nat.reduceLeDiff, Nat.reducePow, Nat.reduceMul, tyW, Azz, encCl, askC, encN, List.append_eq, List.cons_append, List.nil_append, tokW, rowsW, hpu']
    exact fin _ (putM W' c (whW n o L c)) O' (hW'.put c) hO' rfl rfl rfl rfl (by show 3 ≤ 7; decide) rfl
end Go.Proofs.Ytbbnfbnicacdoaa
end
section
namespace Go.Proofs.Ytbbnfbnicacdoaa
open Go Go.Ab
set_option linter.unusedSimpArgs false
set_option linter.unusedVariables false
set_option maxRecDepth 20000
set_option maxHeartbeats 4000000
theorem SCall_shut {n : Nt} {o : List Orc} {L : List It} {f : Nat} {args : List AV} {W : Wm} {O : Om} {v : AV} (hv : Ab.Pure v) (ha : ∀ {σ : Nat → Nat}, (∀ i, i < 3 → σ i = i) → RnL σ 3 args args)
    (h : SCall Try.prog f args (hA n o L W O) fun r h' => r = v ∧ ∃ W' O', WOk n o L W' ∧ OOk n o L O' ∧ lk h'.boxes 0 = some (askC n o L 1 2) ∧ lk h'.toks 1 = some (tokW W') ∧ lk h'.toks 2 = some (tokO O')) :
    SCall Try.prog f args (hA n o L W O) fun r h' => r = v ∧ ∃ W' O', WOk n o L W' ∧ OOk n o L O' ∧ h' = hA n o L W' O' := by
  have ii : ∀ i, i < 3 → ren id 3 3 i = i := fun i h => by simp [ren, h]
  have rnA : ∀ {σ : Nat → Nat}, (∀ i, i < 3 → σ i = i) → RnL σ 3 (askC n o L 1 2) (askC n o L 1 2) := fun {σ} s => by
    have p : ∀ {a}, Ab.Pure a → Rn σ 3 a a := fun h => .pure h
    unfold askC encN
    simp only [List.cons_append, List.nil_append]
    exact .cons (p (.vec (pure_rows pure_encB _))) (.cons (p (.vec (pure_rows pure_encB _))) (.cons (p (.vec (pure_rows pure_encB _))) (.cons (p (.vec (pure_rows pure_encNr _))) (.cons (p (.vec (pure_rows pure_encSt _))) (.cons (p (.vec (pure_rows pure_encO _))) (.cons (p (.vec (pure_rows pure_encI _))) (.cons (.om (by omega) (s 1 (by omega))) (.cons (.om (by omega) (s 2 (by omega))) .nil))))))))
  refine SCall.sub (hs := hA n o L W O) id (fun i j _ _ q => q) (fun i hi => hi) (ha fun i _ => rfl) (allc ⟨by show 0 < 3; decide, _, rfl, rnA fun i _ => rfl⟩ alln) (allc ⟨by show 1 < 3; decide, _, rfl, rfl, rfl, .pure (pure_rowsW W)⟩ (allc ⟨by show 2 < 3; decide, _, rfl, rfl, rfl, .pure (pure_rowsO O)⟩ alln)) h ?_
  rintro r h' ⟨rfl, W', O', hW', hO', b0, t1, t2⟩ hn
  refine ⟨r, hA n o L W' O', 0, hn, rfl, .pure hv, fun i cs' e => ?_, fun i k' e => ?_, rfl, W', O', hW', hO', rfl⟩
  · have e : lk [(0, askC n o L 1 2)] i = some cs' := e
    simp only [lk] at e
    split at e
    · rename_i q; subst q; cases e
      exact .inl ⟨0, _, by show 0 < 3; decide, rfl, b0, rnA ii⟩
    · cases e
  · have e : lk [(1, tokW W'), (2, tokO O')] i = some k' := e
    simp only [lk] at e
    split at e
    · rename_i q; subst q; cases e
      exact .inl ⟨1, _, by show 1 < 3; decide, rfl, t1, rfl, rfl, .pure (pure_rowsW W')⟩
    · split at e
      · rename_i q; subst q; cases e
        exact .inl ⟨2, _, by show 2 < 3; decide, rfl, t2, rfl, rfl, .pure (pure_rowsO O')⟩
      · cases e
theorem open_spec (n : Nt) (o : List Orc) (L : List It) (w : Wf n) (okn : NtOk n) (rk : Nat → Nat) (hrk : Rk n rk) (ho : o.length ≤ 1000000000) (hL : L.length ≤ 25) : ∀ c : Cl, c.rule < n.rules.length → c.pos ≤ L.length → AskCall n o L 35 c (.lit (.bool (opB n o L c))) := by
  refine cl_ind rk fun c hr hp ih => ?_
  have hW : ∀ s p e, Rs n o L c s p → e ∈ (n.states.getD s default).edges → e.op.1 = 2 → AskCall n o L 23 ⟨e.n.toNat, e.level, p⟩ (maskV (whW n o L ⟨e.n.toNat, e.level, p⟩)) := fun s p e hs he h2 => by
    obtain ⟨q1, q2, q3⟩ := cl_lt w hrk hs hr hp he h2
    exact whole_spec n o L w okn rk hrk ho hL _ q1 q2
  have hO : ∀ s p e, Rs n o L c s p → e ∈ (n.states.getD s default).edges → e.op.1 = 2 → AskCall n o L 35 ⟨e.n.toNat, e.level, p⟩ (.lit (.bool (opB n o L ⟨e.n.toNat, e.level, p⟩))) := fun s p e hs he h2 => by
    obtain ⟨q1, q2, q3⟩ := cl_lt w hrk hs hr hp he h2
    exact ih _ q1 q2 q3
  have hwk := fun W0 O0 h1 h2 => walk_spec (α := Bool) n o L w okn ho hL c hr hp true 48 call48 [.ptr 4 0, .ptr 3 0] [.ptr 0 0] (fun y => [.lit (.bool y)]) (fun y x => y || decide (x.2 = L.length)) (fun y => y)
    (fun y Pr => y = false ∧ (∀ x ∈ Pr, Rs n o L c x.1 x.2) ∧ ∀ x ∈ Pr, x.2 ≠ L.length) (fun y => y = opB n o L c) (.cons (.ptr (by decide) rfl) .nil) (fun a => allc (.lit _) alln)
    (fun H a x Pr hA hx b0 b3 b4 fb ft => open1_spec n o L 1 2 0 x a 3 4 H (by omega) b0 b3 b4 fb)
    (fun a Pr x ⟨i1, i2, i3⟩ hx q => by
      refine ⟨q, fun y hy => ?_, fun y hy => ?_⟩
      · rcases List.mem_append.1 hy with q | q
        · exact i2 y q
        · simp only [List.mem_singleton] at q; subst q; exact hx
      · rcases List.mem_append.1 hy with h | h
        · exact i3 y h
        · simp only [List.mem_singleton] at h; subst h
          intro h2
          simp [h2] at q)
    (fun a Pr x ⟨i1, i2, i3⟩ hx q => by
      simp only [i1, Bool.false_or, decide_eq_true_eq] at q ⊢
      have : opB n o L c = true := opB_true.2 (.here (s := x.1) (by rw [← q]; exact hx))
      rw [this]; simp [q])
    (fun _ a Pr s p e ⟨i1, i2, i3⟩ hs he h2 hop => by
      have : opB n o L c = true := opB_true.2 (.call hs he h2 hop)
      rw [this]; simp)
    (fun a Pr ⟨i1, i2, i3⟩ hall hno => by
      rw [i1]
      cases q : opB n o L c with
      | false => rfl
      | true =>
        exfalso
        cases opB_true.1 q with
        | here h => exact i3 _ (hall _ _ h) rfl
        | call h1 h2 h3 h4 => exact hno rfl _ _ _ h1 h2 h3 h4)
    hW (fun _ => hO) false ⟨rfl, fun x hx => (by cases hx), fun x hx => (by cases hx)⟩ W0 O0 h1 h2
  intro W O hW0 hO0
  refine SCall_shut (.lit _) (fun {σ} s => .cons (.ptr (by decide) (s 0 (by decide))) (.cons (.pure (pure_kCl c)) .nil)) ?_
  obtain ⟨R, hR⟩ : ∃ R : AV → Hp → Prop, (fun r h' => r = .lit (.bool (opB n o L c)) ∧ ∃ W' O', WOk n o L W' ∧ OOk n o L O' ∧ lk h'.boxes 0 = some (askC n o L 1 2) ∧ lk h'.toks 1 = some (tokW W') ∧ lk h'.toks 2 = some (tokO O')) = R := ⟨_, rfl⟩
  have hRi : ∀ W' O' (h' : Hp), WOk n o L W' → OOk n o L O' → lk h'.boxes 0 = some (askC n o L 1 2) → lk h'.toks 1 = some (tokW W') → lk h'.toks 2 = some (tokO O') → R (.lit (.bool (opB n o L c))) h' := fun W' O' h' q1 q2 q3 q4 q5 => by rw [← hR]; exact ⟨rfl, W', O', q1, q2, q3, q4, q5⟩
  rw [hR]
  refine SCall_introW Try.func35 rfl Try.ntmps35 (rs := [.cell 4 4]) rfl (by simp) ?_
  have hm := mask_rows' (ev := fun b : Bool => AV.lit (.bool b)) keyCl c O (P := Try.prog) (et := 4) zr4
  have hpu := fun O => mput_rows (P := Try.prog) (ev := fun b : Bool => AV.lit (.bool b)) keyCl c (opB n o L c) O
  have kc' : kCl c = .agg [.lit (.int .i64 (c.rule : Int)), .lit (.int .i64 c.level), .lit (.int .i64 (c.pos : Int))] := rfl
  rw [kc'] at hm hpu
  simp -implicitDefEqProofs (disch := omega) only [Xzz, Yzy, Dzz, ↓reduceIte, reduceCtorEq, Nat.reduceLT, Nat.reduceEqDiff, Nat.reduceAdd, Nat.reduceLeDiff, Nat.reducePow, Nat.reduceMul, tyW, Azz, hA, kCl, encCl]
  refine aw_quietN (n := 29) rfl (by decide) mixed ?_
  cases hl : lookM O c with
  | some v =>
    have hv := hO0 c v hl
    rw [hl] at hm
    simp only at hm
    subst hv
    simp -implicitDefEqProofs (disch := omega) only [Xzz, Yzy, Dzz, ↓reduceIte, reduceCtorEq, Nat.reduceLT, Nat.reduceEqDiff, Nat.reduceAdd, Nat.reduceLeDiff, Nat.reducePow, Nat.reduceMul, tyW, Azz, askC, encN, tokO, rowsO, hm, List.append_eq, List.cons_append, List.nil_append]
    exact ⟨_, St.wk.refl _, hRi W O _ hW0 hO0 rfl rfl rfl⟩
  | none =>
    rw [hl] at hm
    simp only at hm
    simp -implicitDefEqProofs (disch := omega) only [Xzz, Yzy, Dzz, ↓reduceIte, reduceCtorEq, Nat.reduceLT, Nat.reduceEqDiff, Nat.reduceAdd, Nat.reduceLeDiff, Nat.reducePow, Nat.reduceMul, tyW, Azz, askC, encN, tokO, rowsO, hm, List.append_eq, List.cons_append, List.nil_append]
    have hat := walk_at W O 3 5 (cap' := [.ptr 5 0, .ptr 3 0]) (hwk W O hW0 hO0) (fun a => allc (.lit _) alln) (allc (.lit _) alln) (fun σ h0 => .cons (.ptr (by decide) h0) .nil) (fun σ h3 h4 => .cons (.ptr (by decide) h4) (.cons (.ptr (by decide) h3) .nil))
      ⟨[(0, askC n o L 1 2), (3, [.ptr 0 0]), (4, encCl c), (5, [.lit (.bool false)])], [(1, tokW W), (2, tokO O)], 6⟩ (by decide) (by decide) (by decide) (by show 3 < 6; decide) (by show 5 < 6; decide) rfl rfl rfl rfl rfl rfl rfl rfl
    rw [kc'] at hat
    refine CallK_of call36 hat ?_
    rintro r0 h' ⟨rfl, a, W', O', hW', hO', rfl, rfl⟩
    simp -implicitDefEqProofs (disch := omega) only [Xzz, Yzy, Dzz, ↓reduceIte, reduceCtorEq, Nat.reduceLT, Nat.reduceEqDiff, Nat.reduceAdd, Nat.reduceLeDiff, Nat.reducePow, Nat.reduceMul, tyW, Azz, encCl]
    refine aw_drawQ (n := 29) 6 (.alt 6 .leaf .nil) rfl (by decide) (by decide) mixed (by kernel_rfl) (by decide) ?_
    have hpu' := hpu O'
    simp -implicitDefEqProofs (disch := omega) only [Xzz, Yzy, Dzz, ↓reduceIte, reduceCtorEq, Nat.reduceLT, Nat.reduceEqDiff, Nat.reduceAdd, Nat.reduceLeDiff, Nat.reducePow, Nat.reduceMul, tyW, Azz, encCl, askC, encN, List.append_eq, List.cons_append, List.nil_append, tokO, rowsO, hpu']
    exact ⟨_, St.wk.refl _, hRi W' (putM O' c (opB n o L c)) _ hW' (hO'.put c) rfl rfl rfl⟩
end Go.Proofs.Ytbbnfbnicacdoaa
end
section
namespace Go.Proofs.Ytbbnfbnicacdoaa
open Go Go.Ab
set_option linter.unusedSimpArgs false
set_option linter.unusedVariables false
set_option maxRecDepth 20000
set_option maxHeartbeats 4000000
def askX (n : Nt) (o : List Orc) (x y z : AV) : List AV := encN n ++ [.vec (o.map encO) false, x, y, z]
def asksV (n : Nt) (rule : Int) (k : Nat) : Int :=
  if rule < 0 then 2 else if (n.rules.length : Int) ≤ rule then 2 else if (n.rules.getD rule.toNat default).lexer then 2 else if 601 < k then 3 else 0
theorem asks_spec (n : Nt) (o : List Orc) (x y z : AV) (rule : Int) (k : Nat) (H : Hp) (ai : Nat) (hn : n.rules.length ≤ 1000000000) (h : lk H.boxes ai = some (askX n o x y z)) :
    SCall Try.prog 19 [.ptr ai 0, .lit (.int .i64 rule), .lit (.int .i64 (k : Int))] H fun r h' => r = .lit (.int .i64 (asksV n rule k)) ∧ h' = H := by
  obtain ⟨v, hv⟩ : ∃ v, asksV n rule k = v := ⟨_, rfl⟩
  rw [hv]
  refine SCall_introW Try.func19 rfl Try.ntmps19 (rs := [.tmp 6]) rfl (by simp) ?_
  unfold asksV at hv
  unfold askX encN at h
  simp only [List.cons_append, List.nil_append] at h
  have fin : ∀ (σ' : St), σ'.hp = H → σ'.nt = 37 → lk σ'.slots 6 = some (.lit (.int .i64 v)) → ∃ σ'', St.wk σ' σ'' ∧ resK (resOf Try.prog σ'' [.tmp 6]) (fun r h' => r = .lit (.int .i64 v) ∧ h' = H) σ''.hp := fun σ' e1 e2 e3 =>
    ⟨⟨[(6, .lit (.int .i64 v))], H, 37⟩, wk_lk (allc e3 alln) (fun i c e => by rw [e1]; exact e) (fun i c e => by rw [e1]; exact e) (by rw [e1]) (by rw [e2]), (show _ ∧ _ from ⟨rfl, rfl⟩)⟩
  by_cases h1 : rule < 0
  · rw [if_pos h1] at hv
    subst hv
    simp -implicitDefEqProofs (disch := omega) only [Xzz, Yzy, Dzz, ↓reduceIte, reduceCtorEq, Nat.reduceLT, Nat.reduceEqDiff, Nat.reduceAdd, Nat.reduceLeDiff, Nat.reducePow, Nat.reduceMul, tyW, Azz, h]
    exact fin _ rfl rfl rfl
  · rw [if_neg h1] at hv
    by_cases h2 : (n.rules.length : Int) ≤ rule
    · rw [if_pos h2] at hv
      subst hv
      simp -implicitDefEqProofs (disch := omega) only [Xzz, Yzy, Dzz, ↓reduceIte, reduceCtorEq, Nat.reduceLT, Nat.reduceEqDiff, Nat.reduceAdd, Nat.reduceLeDiff, Nat.reducePow, Nat.reduceMul, tyW, Azz, h]
      exact fin _ rfl rfl rfl
    · rw [if_neg h2] at hv
      obtain ⟨rn, rfl⟩ : ∃ rn : Nat, rule = (rn : Int) := ⟨rule.toNat, by omega⟩
      obtain ⟨r, hr⟩ : ∃ r, n.rules.getD rn default = r := ⟨_, rfl⟩
      simp only [Int.toNat_natCast, hr] at hv
      obtain ⟨lx, hlx⟩ : ∃ lx, r.lexer = lx := ⟨_, rfl⟩
      rw [hlx] at hv
      cases lx with
      | true =>
        simp only [if_true] at hv
        subst hv
        simp -implicitDefEqProofs (disch := omega) only [Xzz, Yzy, Dzz, ↓reduceIte, reduceCtorEq, Nat.reduceLT, Nat.reduceEqDiff, Nat.reduceAdd, Nat.reduceLeDiff, Nat.reducePow, Nat.reduceMul, tyW, Azz, h, encNr, hr, hlx]
        exact fin _ rfl rfl rfl
      | false =>
        simp only [Bool.false_eq_true, if_false] at hv
        by_cases h3 : 601 < k
        · rw [if_pos h3] at hv
          subst hv
          simp -implicitDefEqProofs (disch := omega) only [Xzz, Yzy, Dzz, ↓reduceIte, reduceCtorEq, Nat.reduceLT, Nat.reduceEqDiff, Nat.reduceAdd, Nat.reduceLeDiff, Nat.reducePow, Nat.reduceMul, tyW, Azz, h, encNr, hr, hlx]
          exact fin _ rfl rfl rfl
        · rw [if_neg h3] at hv
          subst hv
          simp -implicitDefEqProofs (disch := omega) only [Xzz, Yzy, Dzz, ↓reduceIte, reduceCtorEq, Nat.reduceLT, Nat.reduceEqDiff, Nat.reduceAdd, Nat.reduceLeDiff, Nat.reducePow, Nat.reduceMul, tyW, Azz, h, encNr, hr, hlx]
          exact fin _ rfl rfl rfl
theorem le0_spec (i : It) : KCall Try.prog 33 [.agg (encI i)] (.lit (.bool (decide (i.type ≤ 0)))) := by
  refine KCall_of (SCall_intro Try.func33 rfl Try.ntmps33 (rs := [.tmp 2]) rfl (by simp) ?_)
  by_cases h : i.type ≤ 0
  · rw [decide_eq_true h]
    simp -implicitDefEqProofs (disch := omega) only [Xzz, Yzy, Dzz, ↓reduceIte, reduceCtorEq, Nat.reduceLT, Nat.reduceEqDiff, Nat.reduceAdd, Nat.reduceLeDiff, Nat.reducePow, Nat.reduceMul, tyW, Azz, encI]
    exact kexpo (.lit _)
  · rw [decide_eq_false h]
    simp -implicitDefEqProofs (disch := omega) only [Xzz, Yzy, Dzz, ↓reduceIte, reduceCtorEq, Nat.reduceLT, Nat.reduceEqDiff, Nat.reduceAdd, Nat.reduceLeDiff, Nat.reducePow, Nat.reduceMul, tyW, Azz, encI]
    exact kexpo (.lit _)
def anyLe0 (L : List It) : Bool := L.any fun i => decide (i.type ≤ 0)
theorem gpI (i : It) : GP (.agg (encI i)) := .of_pure (.agg (pure_encI i))
def idxLe0 : List It → Nat → Int
  | [], _ => -1
  | i :: l, k => if i.type ≤ 0 then (k : Int) else idxLe0 l (k + 1)
theorem idxLe0_any : ∀ (l : List It) (k : Nat), (decide (0 ≤ idxLe0 l k)) = anyLe0 l
  | [], k => rfl
  | i :: l, k => by
    unfold idxLe0 anyLe0
    rw [List.any_cons]
    by_cases h : i.type ≤ 0
    · rw [if_pos h, decide_eq_true h, Bool.true_or]; exact decide_eq_true (by omega)
    · rw [if_neg h, decide_eq_false h, Bool.false_or]; exact idxLe0_any l (k + 1)
theorem drop_getD {T : Type} [Inhabited T] {l : List T} {k : Nat} (h : k < l.length) : l.drop k = l.getD k default :: l.drop (k + 1) := by
  rw [List.drop_eq_getElem_cons h, List.getD_eq_getElem?_getD, List.getElem?_eq_getElem h]; rfl
theorem indexLe0 (L : List It) (f : Bool) (h : L.length ≤ 1000000000) : KCall Try.prog 47 [.vec (L.map encI) f, .fn (.func 33) [] []] (.lit (.int .i64 (idxLe0 L 0))) := by
  obtain ⟨v, hv⟩ : ∃ v, idxLe0 L 0 = v := ⟨_, rfl⟩
  rw [hv]
  refine KCall_of (SCall_introK Try.func47 rfl Try.ntmps47 (rs := [.tmp 4]) rfl (by simp) ?_)
  refine aw_of ?_
  simp -implicitDefEqProofs (disch := omega) only [Xzz, Yzy, Dzz, ↓reduceIte, reduceCtorEq, Nat.reduceLT, Nat.reduceEqDiff, Nat.reduceAdd, Nat.reduceLeDiff, Nat.reducePow, Nat.reduceMul, tyW, Azz]
  refine aw_measA (fun k : Nat => ⟨[(8, .lit (.int .i64 (k : Int))), (7, .lit (.int .i64 (L.length : Int))), (0, .vec (L.map encI) f), (1, .fn (.func 33) [] [])], ⟨[], [], 0⟩, 19⟩) (fun k => k ≤ L.length ∧ idxLe0 (L.drop k) k = v) (fun k => L.length - k) 0 (wk_lk (by simp [lk]) (fun _ _ q => q) (fun _ _ q => q) rfl rfl) ⟨Nat.zero_le _, by rw [List.drop_zero]; exact hv⟩ ?_
  rintro k ⟨hk, hkv⟩
  refine aw_of ?_
  rcases Nat.lt_or_ge k L.length with hl | hg
  · obtain ⟨x, hx⟩ : ∃ x, L.getD k default = x := ⟨_, rfl⟩
    rw [drop_getD hl, hx] at hkv
    unfold idxLe0 at hkv
    have hs := le0_spec x
    simp -implicitDefEqProofs (disch := omega) only [Xzz, Yzy, Dzz, ↓reduceIte, reduceCtorEq, Nat.reduceLT, Nat.reduceEqDiff, Nat.reduceAdd, Nat.reduceLeDiff, Nat.reducePow, Nat.reduceMul, tyW, Azz, hx]
    refine CallK_k call33 hs (allc (gpI x) alln) (.lit _) ?_
    by_cases ht : x.type ≤ 0
    · rw [if_pos ht] at hkv
      rw [decide_eq_true ht]
      simp -implicitDefEqProofs (disch := omega) only [Xzz, Yzy, Dzz, ↓reduceIte, reduceCtorEq, Nat.reduceLT, Nat.reduceEqDiff, Nat.reduceAdd, Nat.reduceLeDiff, Nat.reducePow, Nat.reduceMul, tyW, Azz]
      rw [hkv]
      exact kexpo (.lit _)
    · rw [if_neg ht] at hkv
      rw [decide_eq_false ht]
      simp -implicitDefEqProofs (disch := omega) only [Xzz, Yzy, Dzz, ↓reduceIte, reduceCtorEq, Nat.reduceLT, Nat.reduceEqDiff, Nat.reduceAdd, Nat.reduceLeDiff, Nat.reducePow, Nat.reduceMul, tyW, Azz]
      exact ⟨k + 1, ⟨hl, hkv⟩, by omega, wk_lk (by simp [lk]) (fun _ _ q => q) (fun _ _ q => q) rfl rfl⟩
  · have hk2 : k = L.length := by omega
    subst hk2
    rw [List.drop_length] at hkv
    have hkv : (-1 : Int) = v := hkv
    simp -implicitDefEqProofs (disch := omega) only [Xzz, Yzy, Dzz, ↓reduceIte, reduceCtorEq, Nat.reduceLT, Nat.reduceEqDiff, Nat.reduceAdd, Nat.reduceLeDiff, Nat.reducePow, Nat.reduceMul, tyW, Azz]
    rw [hkv]
    exact kexpo (.lit _)
theorem containsLe0 (L : List It) (f : Bool) (h : L.length ≤ 1000000000) : KCall Try.prog 32 [.vec (L.map encI) f, .fn (.func 33) [] []] (.lit (.bool (anyLe0 L))) := by
  refine KCall_of (SCall_introK Try.func32 rfl Try.ntmps32 (rs := [.tmp 4]) rfl (by simp) ?_)
  rw [← idxLe0_any L 0]
  refine aw_of ?_
  simp -implicitDefEqProofs (disch := omega) only [Xzz, Yzy, Dzz, ↓reduceIte, reduceCtorEq, Nat.reduceLT, Nat.reduceEqDiff, Nat.reduceAdd, Nat.reduceLeDiff, Nat.reducePow, Nat.reduceMul, tyW, Azz]
  refine CallK_k call47 (indexLe0 L f h) (allc (.of_pure (.vec (pure_rows pure_encI _))) (allc (.of_pure (.fn alln alln)) alln)) (.lit _) ?_
  simp -implicitDefEqProofs (disch := omega) only [Xzz, Yzy, Dzz, ↓reduceIte, reduceCtorEq, Nat.reduceLT, Nat.reduceEqDiff, Nat.reduceAdd, Nat.reduceLeDiff, Nat.reducePow, Nat.reduceMul, tyW, Azz]
  exact kexpo (.lit _)
theorem up_up {α : Type} : ∀ (l : List (Nat × α)) (i : Nat) (v w : α), up (up l i v) i w = up l i w
  | [], _, _, _ => rfl
  | p :: l, i, v, w => by
    obtain ⟨j, x⟩ := p
    by_cases h : j = i
    · simp [up, h]
    · simp [up, h, up_up l i v w]
theorem use_spec (n : Nt) (o : List Orc) (x y z : AV) (L : List It) (H : Hp) (ai : Nat) (h : lk H.boxes ai = some (askX n o x y z)) (hf : ∀ i, H.nx ≤ i → lk H.boxes i = none) (hft : ∀ i, H.nx ≤ i → lk H.toks i = none) :
    SCall Try.prog 21 [.ptr ai 0, .vec (L.map encI) false] H fun r h' => r = .tup [] ∧ h' = ⟨up H.boxes ai (askC n o L H.nx (H.nx + 1)), H.toks ++ [(H.nx, tokW []), (H.nx + 1, tokO [])], H.nx + 2⟩ := by
  refine SCall_introW Try.func21 rfl Try.ntmps21 (rs := []) rfl (by simp) ?_
  obtain ⟨R, hR⟩ : ∃ R : AV → Hp → Prop, (fun r h' => r = AV.tup [] ∧ h' = (⟨up H.boxes ai (askC n o L H.nx (H.nx + 1)), H.toks ++ [(H.nx, tokW []), (H.nx + 1, tokO [])], H.nx + 2⟩ : Hp)) = R := ⟨_, rfl⟩
  rw [hR]
  have h' := h
  unfold askX encN at h'
  simp only [List.cons_append, List.nil_append] at h'
  have hu : ∀ v, lk (up H.boxes ai v) ai = some v := fun v => by rw [lk_up, if_pos rfl, h]; rfl
  have huu : ∀ v w, up (up H.boxes ai v) ai w = up H.boxes ai w := fun v w => up_up _ _ _ _
  simp -implicitDefEqProofs (disch := omega) only [Xzz, Yzy, Dzz, ↓reduceIte, reduceCtorEq, Nat.reduceLT, Nat.reduceEqDiff, Nat.reduceAdd, Nat.reduceLeDiff, Nat.reducePow, Nat.reduceMul, tyW, Azz, h', hu, huu]
  refine ⟨⟨[], ⟨up H.boxes ai (askC n o L H.nx (H.nx + 1)), H.toks ++ [(H.nx, tokW []), (H.nx + 1, tokO [])], H.nx + 2⟩, 16⟩, wk_lk alln (fun _ _ q => q) (fun i k q => ?_) rfl rfl, by rw [← hR]; exact ⟨rfl, rfl⟩⟩
  rw [List.append_assoc]; exact q
end Go.Proofs.Ytbbnfbnicacdoaa
end
section
namespace Go.Proofs.Ytbbnfbnicacdoaa
open Go Go.Ab
set_option linter.unusedSimpArgs false
set_option linter.unusedVariables false
set_option maxRecDepth 20000
set_option maxHeartbeats 4000000
theorem up_same {α : Type} : ∀ {l : List (Nat × α)} {i : Nat} {c : α}, lk l i = some c → up l i c = l
  | [], _, _, h => rfl
  | p :: l, i, c, h => by
    obtain ⟨j, x⟩ := p
    simp only [lk] at h
    split at h
    · rename_i q; cases h; simp [up, q]
    · rename_i q; simp only [up, if_neg q, up_same h]
theorem encI_len (L : List It) : ∀ x ∈ L.map encI, x.length = 5 := fun x hx => by obtain ⟨b, _, rfl⟩ := List.mem_map.1 hx; rfl
theorem sliceIt (L : List It) {k : Nat} (hk : k ≤ L.length) : sliceV 5 (L.map encI) false none (some (k : Int)) none = some (.vec ((L.take k).map encI) false) := by
  unfold sliceV
  simp only [Option.getD_none, Option.getD_some]
  rw [if_pos ⟨by decide, by omega, by simp; omega, Int.le_refl _, fun q => (by cases q), encI_len L⟩]
  have e : ((L.map encI).drop (0 : Int).toNat).take ((k : Int).toNat - (0 : Int).toNat) = (L.take k).map encI := by
    simp [List.map_take]
  rw [e]
  rfl
structure AtA (n : Nt) (o : List Orc) (H : Hp) (ai : Nat) (x y z : AV) : Prop where
  bx : lk H.boxes ai = some (askX n o x y z)
  fb : ∀ i, H.nx ≤ i → lk H.boxes i = none
  ft : ∀ i, H.nx ≤ i → lk H.toks i = none
  nt : lk H.toks ai = none
theorem AtA.lt {n : Nt} {o : List Orc} {H : Hp} {ai : Nat} {x y z : AV} (h : AtA n o H ai x y z) : ai < H.nx := by
  rcases Nat.lt_or_ge ai H.nx with q | q
  · exact q
  · have := h.fb ai q; rw [h.bx] at this; cases this
structure NetOk (n : Nt) (o : List Orc) : Prop where
  w : Wf n
  ok : NtOk n
  rk : ∃ rk, Rk n rk
  ho : o.length ≤ 1000000000
noncomputable def viaV (n : Nt) (o : List Orc) (rule : Nat) (L : List It) : Bool :=
  if 0 < L.length then
    if anyLe0 (L.take (L.length - 1)) then false
    else if (L.getD (L.length - 1) default).type = 0 then (whW n o L ⟨rule, 0, 0⟩).testBit (L.length - 1) else opB n o L ⟨rule, 0, 0⟩
  else opB n o L ⟨rule, 0, 0⟩
def LeftA (n : Nt) (o : List Orc) (H : Hp) (ai : Nat) (h' : Hp) : Prop := ∃ x y z m, H.nx ≤ m ∧ h' = ⟨up H.boxes ai (askX n o x y z), H.toks, m⟩
theorem viable_spec (n : Nt) (o : List Orc) (N : NetOk n o) (rule : Nat) (hr : rule < n.rules.length) (L : List It) (hL : L.length ≤ 25) (H : Hp) (ai : Nat) (x y z : AV) (hA : AtA n o H ai x y z) :
    SCall Try.prog 20 [.ptr ai 0, .lit (.int .i64 (rule : Int)), .vec (L.map encI) false] H fun r h' => r = .lit (.bool (viaV n o rule L)) ∧ LeftA n o H ai h' := by
  obtain ⟨rk, hrk⟩ := N.rk
  obtain ⟨v, hv⟩ : ∃ v, viaV n o rule L = v := ⟨_, rfl⟩
  have hlt := hA.lt
  obtain ⟨R, hR⟩ : ∃ R : AV → Hp → Prop, (fun r h' => r = AV.lit (.bool v) ∧ LeftA n o H ai h') = R := ⟨_, rfl⟩
  have hRi : ∀ x y z m, H.nx ≤ m → R (.lit (.bool v)) ⟨up H.boxes ai (askX n o x y z), H.toks, m⟩ := fun x y z m h => by rw [← hR]; exact ⟨rfl, x, y, z, m, h, rfl⟩
  rw [hv, hR]
  refine SCall_introW Try.func20 rfl Try.ntmps20 (rs := [.tmp 6]) rfl (by simp) ?_
  have fin0 : ∀ (σ' : St), σ'.hp = H → σ'.nt = 44 → lk σ'.slots 6 = some (.lit (.bool v)) → ∃ σ'', St.wk σ' σ'' ∧ resK (resOf Try.prog σ'' [.tmp 6]) R σ''.hp := fun σ' e1 e2 e3 =>
    ⟨⟨[(6, .lit (.bool v))], H, 44⟩, wk_lk (allc e3 alln) (fun i c e => by rw [e1]; exact e) (fun i c e => by rw [e1]; exact e) (by rw [e1]) (by rw [e2]), by
      have := hRi x y z H.nx (Nat.le_refl _)
      rw [up_same hA.bx] at this
      exact this⟩
  unfold viaV at hv
  have huse := use_spec n o x y z L H ai hA.bx hA.fb hA.ft
  obtain ⟨H2, hH2⟩ : ∃ H2 : Hp, (⟨up H.boxes ai (askC n o L H.nx (H.nx + 1)), H.toks ++ [(H.nx, tokW []), (H.nx + 1, tokO [])], H.nx + 2⟩ : Hp) = H2 := ⟨_, rfl⟩
  rw [hH2] at huse
  have b0 : lk H2.boxes ai = some (askC n o L H.nx (H.nx + 1)) := by rw [← hH2]; show lk (up _ _ _) ai = _; rw [lk_up, if_pos rfl, hA.bx]; rfl
  have t1 : lk H2.toks H.nx = some (tokW []) := by rw [← hH2]; show lk (_ ++ _) _ = _; rw [lk_app, hA.ft _ (Nat.le_refl _)]; simp [lk]
  have t2 : lk H2.toks (H.nx + 1) = some (tokO []) := by rw [← hH2]; show lk (_ ++ _) _ = _; rw [lk_app, hA.ft _ (by omega)]; simp [lk]
  have t0 : lk H2.toks ai = none := by rw [← hH2]; show lk (_ ++ _) _ = _; rw [lk_app, hA.nt]; simp only [lk]; rw [if_neg (by omega), if_neg (by omega)]; rfl
  have n2 : H2.nx = H.nx + 2 := by rw [← hH2]
  have bb : H2.boxes = up H.boxes ai (askC n o L H.nx (H.nx + 1)) := by rw [← hH2]
  have tt : ∀ i k, lk H.toks i = some k → lk H2.toks i = some k := fun i k e => by rw [← hH2]; show lk (_ ++ _) _ = _; rw [lk_app, e]; rfl
  have fin : ∀ (sl : List (Nat × AV)) W' O', lk sl 6 = some (.lit (.bool v)) → ∃ σ'', St.wk ⟨sl, ⟨H2.boxes, up (up H2.toks H.nx (tokW W')) (H.nx + 1) (tokO O'), H2.nx⟩, 44⟩ σ'' ∧ resK (resOf Try.prog σ'' [.tmp 6]) R σ''.hp := fun sl W' O' e3 =>
    ⟨⟨[(6, .lit (.bool v))], ⟨up H.boxes ai (askC n o L H.nx (H.nx + 1)), H.toks, H.nx + 2⟩, 44⟩, wk_lk (allc e3 alln) (fun i c e => by rw [bb]; exact e) (fun i k e => by
      have e : lk H.toks i = some k := e
      have h1 : i ≠ H.nx := fun q => by rw [q, hA.ft _ (Nat.le_refl _)] at e; cases e
      have h2 : i ≠ H.nx + 1 := fun q => by rw [q, hA.ft _ (by omega)] at e; cases e
      show lk (up (up H2.toks H.nx (tokW W')) (H.nx + 1) (tokO O')) i = some k
      rw [lk_up, if_neg (Ne.symm h2), lk_up, if_neg (Ne.symm h1)]; exact tt i k e) n2.symm rfl, hRi _ _ _ _ (by omega)⟩
  clear hH2
  have kc' : kCl ⟨rule, 0, 0⟩ = .agg [.lit (.int .i64 (rule : Int)), .lit (.int .i64 0), .lit (.int .i64 0)] := rfl
  have hwa := ask_at (whole_spec n o L N.w N.ok rk hrk N.ho hL ⟨rule, 0, 0⟩ hr (Nat.zero_le _)) (pure_maskV _) H2 ai H.nx (H.nx + 1) [] [] WOk.nil OOk.nil b0 t1 t2 (by omega) (by omega) (by omega) (by omega) (by omega) (by omega) t0
  have hop := ask_at (open_spec n o L N.w N.ok rk hrk N.ho hL ⟨rule, 0, 0⟩ hr (Nat.zero_le _)) (.lit _) H2 ai H.nx (H.nx + 1) [] [] WOk.nil OOk.nil b0 t1 t2 (by omega) (by omega) (by omega) (by omega) (by omega) (by omega) t0
  rw [kc'] at hwa hop
  by_cases h0 : 0 < L.length
  · rw [if_pos h0] at hv
    have hcast : (L.length : Int) - 1 = ((L.length - 1 : Nat) : Int) := by omega
    have hsl := sliceIt L (k := L.length - 1) (by omega)
    have hcn := containsLe0 (L.take (L.length - 1)) false (by simp; omega)
    simp -implicitDefEqProofs (disch := omega) only [Xzz, Yzy, Dzz, ↓reduceIte, reduceCtorEq, Nat.reduceLT, Nat.reduceEqDiff, Nat.reduceAdd, Nat.reduceLeDiff, Nat.reducePow, Nat.reduceMul, tyW, Azz, hcast, hsl]
    refine CallK_k call32 hcn (allc (.of_pure (.vec (pure_rows pure_encI _))) (allc (.of_pure (.fn alln alln)) alln)) (.lit _) ?_
    cases hany : anyLe0 (L.take (L.length - 1)) with
    | true =>
      rw [hany] at hv
      simp only [if_true] at hv
      subst hv
      simp -implicitDefEqProofs (disch := omega) only [Xzz, Yzy, Dzz, ↓reduceIte, reduceCtorEq, Nat.reduceLT, Nat.reduceEqDiff, Nat.reduceAdd, Nat.reduceLeDiff, Nat.reducePow, Nat.reduceMul, tyW, Azz]
      exact fin0 _ rfl rfl rfl
    | false =>
      rw [hany] at hv
      simp only [Bool.false_eq_true, if_false] at hv
      obtain ⟨it, hit⟩ : ∃ it, L.getD (L.length - 1) default = it := ⟨_, rfl⟩
      rw [hit] at hv
      simp -implicitDefEqProofs (disch := omega) only [Xzz, Yzy, Dzz, ↓reduceIte, reduceCtorEq, Nat.reduceLT, Nat.reduceEqDiff, Nat.reduceAdd, Nat.reduceLeDiff, Nat.reducePow, Nat.reduceMul, tyW, Azz]
      refine CallK_of call21 huse ?_
      rintro r h' ⟨rfl, rfl⟩
      by_cases h1 : it.type = 0
      · rw [if_pos h1] at hv
        have h1' : (it.type == 0) = true := by simpa using h1
        simp -implicitDefEqProofs (disch := omega) only [Xzz, Yzy, Dzz, ↓reduceIte, reduceCtorEq, Nat.reduceLT, Nat.reduceEqDiff, Nat.reduceAdd, Nat.reduceLeDiff, Nat.reducePow, Nat.reduceMul, tyW, Azz, hcast, encI, hit, h1']
        refine CallK_of call23 hwa ?_
        rintro r h' ⟨rfl, W', O', hW', hO', rfl⟩
        have hg := get_spec (whW n o L ⟨rule, 0, 0⟩) (L.length - 1) false (whW_lt hL) (by omega)
        simp -implicitDefEqProofs (disch := omega) only [Xzz, Yzy, Dzz, ↓reduceIte, reduceCtorEq, Nat.reduceLT, Nat.reduceEqDiff, Nat.reduceAdd, Nat.reduceLeDiff, Nat.reducePow, Nat.reduceMul, tyW, Azz, hcast]
        refine CallK_pure call34 hg (allc (pure_maskV _) (allc (.lit _) alln)) (.lit _) ?_
        simp -implicitDefEqProofs (disch := omega) only [Xzz, Yzy, Dzz, ↓reduceIte, reduceCtorEq, Nat.reduceLT, Nat.reduceEqDiff, Nat.reduceAdd, Nat.reduceLeDiff, Nat.reducePow, Nat.reduceMul, tyW, Azz]
        exact fin _ W' O' (by rw [← hv]; rfl)
      · rw [if_neg h1] at hv
        have h1' : (it.type == 0) = false := by simpa using h1
        simp -implicitDefEqProofs (disch := omega) only [Xzz, Yzy, Dzz, ↓reduceIte, reduceCtorEq, Nat.reduceLT, Nat.reduceEqDiff, Nat.reduceAdd, Nat.reduceLeDiff, Nat.reducePow, Nat.reduceMul, tyW, Azz, hcast, encI, hit, h1']
        refine CallK_of call35 hop ?_
        rintro r h' ⟨rfl, W', O', hW', hO', rfl⟩
        simp -implicitDefEqProofs (disch := omega) only [Xzz, Yzy, Dzz, ↓reduceIte, reduceCtorEq, Nat.reduceLT, Nat.reduceEqDiff, Nat.reduceAdd, Nat.reduceLeDiff, Nat.reducePow, Nat.reduceMul, tyW, Azz]
        exact fin _ W' O' (by rw [← hv]; rfl)
  · rw [if_neg h0] at hv
    simp -implicitDefEqProofs (disch := omega) only [Xzz, Yzy, Dzz, ↓reduceIte, reduceCtorEq, Nat.reduceLT, Nat.reduceEqDiff, Nat.reduceAdd, Nat.reduceLeDiff, Nat.reducePow, Nat.reduceMul, tyW, Azz]
    refine CallK_of call21 huse ?_
    rintro r h' ⟨rfl, rfl⟩
    simp -implicitDefEqProofs (disch := omega) only [Xzz, Yzy, Dzz, ↓reduceIte, reduceCtorEq, Nat.reduceLT, Nat.reduceEqDiff, Nat.reduceAdd, Nat.reduceLeDiff, Nat.reducePow, Nat.reduceMul, tyW, Azz]
    refine CallK_of call35 hop ?_
    rintro r h' ⟨rfl, W', O', hW', hO', rfl⟩
    simp -implicitDefEqProofs (disch := omega) only [Xzz, Yzy, Dzz, ↓reduceIte, reduceCtorEq, Nat.reduceLT, Nat.reduceEqDiff, Nat.reduceAdd, Nat.reduceLeDiff, Nat.reducePow, Nat.reduceMul, tyW, Azz]
    exact fin _ W' O' (by rw [← hv]; rfl)
end Go.Proofs.Ytbbnfbnicacdoaa
end
section
namespace Go.Proofs.Ytbbnfbnicacdoaa
open Go Go.Ab
set_option linter.unusedSimpArgs false
set_option linter.unusedVariables false
set_option maxRecDepth 20000
set_option maxHeartbeats 4000000
def once {α : Type} : List (Nat × α) → List (Nat × α)
  | [] => []
  | p :: l => p :: (once l).filter fun q => decide (q.1 ≠ p.1)
theorem lk_filter {α : Type} (i : Nat) : ∀ (l : List (Nat × α)) (j : Nat), lk (l.filter fun q => decide (q.1 ≠ i)) j = if j = i then none else lk l j
  | [], j => by simp [lk]
  | p :: l, j => by
    rw [List.filter_cons]
    by_cases h : p.1 = i
    · simp only [h, ne_eq, not_true_eq_false, decide_false, Bool.false_eq_true, if_false, lk_filter i l j, lk]
      by_cases q : j = i
      · simp [q]
      · simp [q, Ne.symm q]
    · simp only [ne_eq, h, not_false_eq_true, decide_true, if_true, lk, lk_filter i l j]
      by_cases q : j = i
      · subst q; simp [h]
      · simp [q]
theorem lk_once {α : Type} : ∀ (l : List (Nat × α)) (j : Nat), lk (once l) j = lk l j
  | [], j => rfl
  | p :: l, j => by
    simp only [once, lk, lk_filter, lk_once l j]
    by_cases h : p.1 = j
    · simp [h]
    · simp [h, Ne.symm h]
theorem mem_once {α : Type} : ∀ {l : List (Nat × α)} {p : Nat × α}, p ∈ once l → lk l p.1 = some p.2
  | [], p, h => by cases h
  | a :: l, p, h => by
    simp only [once, List.mem_cons, List.mem_filter, decide_eq_true_eq] at h
    rcases h with h | ⟨h, q⟩
    · subst h; simp [lk]
    · simp only [lk]; rw [if_neg (Ne.symm q)]; exact mem_once h
theorem wk_frz {σ σ' : St} {t : Nat} {k : Tk} (hk : lk σ.hp.toks t = some k) (hn : σ'.hp.nx = σ.hp.nx) (ht : σ'.nt = σ.nt)
    (hs : ∀ p ∈ σ'.slots, ∃ b, lk σ.slots p.1 = some b ∧ (b = p.2 ∨ b = .own t k.xs.length ∧ p.2 = .vec k.xs false))
    (hb : ∀ i c, lk σ'.hp.boxes i = some c → lk σ.hp.boxes i = some c) (htk : ∀ i c, lk σ'.hp.toks i = some c → i ≠ t ∧ lk σ.hp.toks i = some c) : St.wk σ σ' := by
  have h1 : St.wk σ ⟨σ'.slots, ⟨once σ'.hp.boxes, once σ'.hp.toks, σ'.hp.nx⟩, σ'.nt⟩ := by
    refine St.wk_freeze hk hn ht (fun g g' e c p hp => ?_) (fun g g' e c p hp => ?_) (fun g p hp => ?_)
    · obtain ⟨b, q1, q2⟩ := hs p hp
      refine ⟨b, q1, ?_⟩
      rcases q2 with q2 | ⟨q2, q3⟩
      · rw [q2]; exact cv_refl e _
      · rw [q2, q3]; exact c
    · exact ⟨p.2, hb _ _ (mem_once hp), cvL_refl e _⟩
    · obtain ⟨q1, q2⟩ := htk _ _ (mem_once hp)
      exact ⟨p.2, by rw [lk_up, if_neg (Ne.symm q1)]; exact q2, TkCv.refl g _⟩
  have h2 : St.wk ⟨σ'.slots, ⟨once σ'.hp.boxes, once σ'.hp.toks, σ'.hp.nx⟩, σ'.nt⟩ σ' := fun g0 h0 w0 g w a r =>
    ⟨g, r.st.less rfl (fun i c e => by rw [lk_once]; exact e) (fun i c e => by rw [lk_once]; exact e), r.slots, r.nt, r.defers⟩
  exact h1.trans h2
structure UseH (n : Nt) (o : List Orc) (L : List It) (H : Hp) (ai : Nat) (H2 : Hp) : Prop where
  nx : H2.nx = H.nx + 2
  bb : H2.boxes = up H.boxes ai (askC n o L H.nx (H.nx + 1))
  b0 : lk H2.boxes ai = some (askC n o L H.nx (H.nx + 1))
  t1 : lk H2.toks H.nx = some (tokW [])
  t2 : lk H2.toks (H.nx + 1) = some (tokO [])
  t0 : lk H2.toks ai = none
  tt : ∀ i k W O, lk H.toks i = some k → lk (up (up H2.toks H.nx (tokW W)) (H.nx + 1) (tokO O)) i = some k
theorem use_at (n : Nt) (o : List Orc) (x y z : AV) (L : List It) (H : Hp) (ai : Nat) (hA : AtA n o H ai x y z) : SCall Try.prog 21 [.ptr ai 0, .vec (L.map encI) false] H fun r h' => r = .tup [] ∧ UseH n o L H ai h' := by
  refine SCall.mono (use_spec n o x y z L H ai hA.bx hA.fb hA.ft) ?_
  rintro r h' ⟨rfl, rfl⟩
  have hlt := hA.lt
  refine ⟨rfl, rfl, rfl, ?_, ?_, ?_, ?_, fun i k W O e => ?_⟩
  · show lk (up _ _ _) ai = _; rw [lk_up, if_pos rfl, hA.bx]; rfl
  · show lk (_ ++ _) _ = _; rw [lk_app, hA.ft _ (Nat.le_refl _)]; simp [lk]
  · show lk (_ ++ _) _ = _; rw [lk_app, hA.ft _ (by omega)]; simp [lk]
  · show lk (_ ++ _) _ = _; rw [lk_app, hA.nt]; simp only [lk]; rw [if_neg (by omega), if_neg (by omega)]; rfl
  · have h1 : i ≠ H.nx := fun q => by rw [q, hA.ft _ (Nat.le_refl _)] at e; cases e
    have h2 : i ≠ H.nx + 1 := fun q => by rw [q, hA.ft _ (by omega)] at e; cases e
    rw [lk_up, if_neg (Ne.symm h2), lk_up, if_neg (Ne.symm h1)]
    show lk (_ ++ _) _ = _
    rw [lk_app, e]; rfl
def lateV (len : Nat) (level at' : Int) : Bool := decide (level < 0) || decide (65 < level) || decide (at' < 0) || decide ((len : Int) < at')
noncomputable def endsL (n : Nt) (o : List Orc) (rule : Nat) (level : Int) (at' : Nat) (L : List It) : List Nat := plcs (whW n o L ⟨rule, level, at'⟩) (L.length + 1)
def endsE (n : Nt) (rule level at' : Int) (len : Nat) : Int := if lateV len level at' then 2 else asksV n rule len
theorem asksV_ne1 (n : Nt) (rule : Int) (k : Nat) : asksV n rule k ≠ 1 := by
  unfold asksV
  repeat' split
  all_goals decide
theorem asksV_0 {n : Nt} {rule : Int} {k : Nat} (h : asksV n rule k = 0) : 0 ≤ rule ∧ rule.toNat < n.rules.length ∧ rule = (rule.toNat : Int) ∧ k ≤ 601 := by
  unfold asksV at h
  split at h
  · cases h
  · split at h
    · cases h
    · split at h
      · cases h
      · split at h
        · cases h
        · refine ⟨by omega, by omega, by omega, by omega⟩
theorem Ends_spec (n : Nt) (o : List Orc) (N : NetOk n o) (rule level at' : Int) (L : List It) (hL : L.length ≤ 25 ∨ 601 < L.length) (hL2 : L.length ≤ 1000000000) (H : Hp) (ai : Nat) (x y z : AV) (hA : AtA n o H ai x y z) :
    SCall Try.prog 11 [.ptr ai 0, .vec (L.map encI) false, .lit (.int .i64 rule), .lit (.int .i64 level), .lit (.int .i64 at')] H fun r h' =>
      (∃ f, r = .tup [.vec ((if endsE n rule level at' L.length = 0 then endsL n o rule.toNat level at'.toNat L else []).map rowI) f, .lit (.int .i64 (endsE n rule level at' L.length))]) ∧ LeftA n o H ai h' := by
  obtain ⟨rk, hrk⟩ := N.rk
  have hlt := hA.lt
  obtain ⟨e0, he0⟩ : ∃ e0, asksV n rule L.length = e0 := ⟨_, rfl⟩
  have hne := asksV_ne1 n rule L.length
  have hz := fun q => asksV_0 (n := n) (rule := rule) (k := L.length) q
  obtain ⟨e, he⟩ : ∃ e, endsE n rule level at' L.length = e := ⟨_, rfl⟩
  obtain ⟨l, hl⟩ : ∃ l, (if endsE n rule level at' L.length = 0 then endsL n o rule.toNat level at'.toNat L else []) = l := ⟨_, rfl⟩
  rw [hl, he]
  rw [he] at hl
  unfold endsE at he
  rw [he0] at hne hz he
  have hask := asks_spec n o x y z rule L.length H ai (by have := N.ok.rules; omega) hA.bx
  rw [he0] at hask
  obtain ⟨R, hR⟩ : ∃ R : AV → Hp → Prop, (fun r h' => (∃ f, r = AV.tup [.vec (l.map rowI) f, .lit (.int .i64 e)]) ∧ LeftA n o H ai h') = R := ⟨_, rfl⟩
  have hRi : ∀ f x y z m, H.nx ≤ m → R (.tup [.vec (l.map rowI) f, .lit (.int .i64 e)]) ⟨up H.boxes ai (askX n o x y z), H.toks, m⟩ := fun f x y z m h => by rw [← hR]; exact ⟨⟨f, rfl⟩, x, y, z, m, h, rfl⟩
  rw [hR]
  refine SCall_introW Try.func11 rfl Try.ntmps11 (rs := [.tmp 10, .tmp 11]) rfl (by simp) ?_
  have fin0 : ∀ (σ' : St), σ'.hp = H → σ'.nt = 55 → e ≠ 0 → lk σ'.slots 10 = some (.vec [] true) → lk σ'.slots 11 = some (.lit (.int .i64 e)) → ∃ σ'', St.wk σ' σ'' ∧ resK (resOf Try.prog σ'' [.tmp 10, .tmp 11]) R σ''.hp := fun σ' e1 e2 e0 e3 e4 =>
    ⟨⟨[(10, .vec [] true), (11, .lit (.int .i64 e))], H, 55⟩, wk_lk (allc e3 (allc e4 alln)) (fun i c e => by rw [e1]; exact e) (fun i c e => by rw [e1]; exact e) (by rw [e1]) (by rw [e2]), by
      have := hRi true x y z H.nx (Nat.le_refl _)
      rw [up_same hA.bx, ← hl, if_neg e0] at this
      exact this⟩
  have hne2 : (e0 == 1) = false := by simpa using hne
  cases hlv : lateV L.length level at' with
  | true =>
    rw [hlv] at he
    simp only [if_true] at he
    subst he
    unfold lateV at hlv
    simp -implicitDefEqProofs (disch := omega) only [Xzz, Yzy, Dzz, ↓reduceIte, reduceCtorEq, Nat.reduceLT, Nat.reduceEqDiff, Nat.reduceAdd, Nat.reduceLeDiff, Nat.reducePow, Nat.reduceMul, tyW, Azz]
    refine CallK_of call19 hask ?_
    rintro r h' ⟨rfl, hh⟩
    rw [hh]
    clear hh
    by_cases c1 : level < 0
    · simp -implicitDefEqProofs (disch := omega) only [Xzz, Yzy, Dzz, ↓reduceIte, reduceCtorEq, Nat.reduceLT, Nat.reduceEqDiff, Nat.reduceAdd, Nat.reduceLeDiff, Nat.reducePow, Nat.reduceMul, tyW, Azz, hne2]
      exact fin0 _ rfl rfl (by decide) rfl rfl
    · by_cases c2 : 65 < level
      · simp -implicitDefEqProofs (disch := omega) only [Xzz, Yzy, Dzz, ↓reduceIte, reduceCtorEq, Nat.reduceLT, Nat.reduceEqDiff, Nat.reduceAdd, Nat.reduceLeDiff, Nat.reducePow, Nat.reduceMul, tyW, Azz, hne2]
        exact fin0 _ rfl rfl (by decide) rfl rfl
      · by_cases c3 : at' < 0
        · simp -implicitDefEqProofs (disch := omega) only [Xzz, Yzy, Dzz, ↓reduceIte, reduceCtorEq, Nat.reduceLT, Nat.reduceEqDiff, Nat.reduceAdd, Nat.reduceLeDiff, Nat.reducePow, Nat.reduceMul, tyW, Azz, hne2]
          exact fin0 _ rfl rfl (by decide) rfl rfl
        · have c4 : (L.length : Int) < at' := by simpa [c1, c2, c3] using hlv
          simp -implicitDefEqProofs (disch := omega) only [Xzz, Yzy, Dzz, ↓reduceIte, reduceCtorEq, Nat.reduceLT, Nat.reduceEqDiff, Nat.reduceAdd, Nat.reduceLeDiff, Nat.reducePow, Nat.reduceMul, tyW, Azz, hne2]
          exact fin0 _ rfl rfl (by decide) rfl rfl
  | false =>
    rw [hlv] at he
    simp only [Bool.false_eq_true, if_false] at he
    subst he
    unfold lateV at hlv
    simp only [Bool.or_eq_false_iff, decide_eq_false_iff_not] at hlv
    obtain ⟨⟨⟨c1, c2⟩, c3⟩, c4⟩ := hlv
    simp -implicitDefEqProofs (disch := omega) only [Xzz, Yzy, Dzz, ↓reduceIte, reduceCtorEq, Nat.reduceLT, Nat.reduceEqDiff, Nat.reduceAdd, Nat.reduceLeDiff, Nat.reducePow, Nat.reduceMul, tyW, Azz]
    refine CallK_of call19 hask ?_
    rintro r h' ⟨rfl, hh⟩
    rw [hh]
    clear hh
    by_cases h0 : e0 = 0
    · obtain ⟨z1, z2, z3, z4⟩ := hz h0
      rw [if_pos h0] at hl
      subst h0
      simp -implicitDefEqProofs (disch := omega) only [Xzz, Yzy, Dzz, ↓reduceIte, reduceCtorEq, Nat.reduceLT, Nat.reduceEqDiff, Nat.reduceAdd, Nat.reduceLeDiff, Nat.reducePow, Nat.reduceMul, tyW, Azz, hne2]
      obtain ⟨rn, hrn⟩ : ∃ rn, rule.toNat = rn := ⟨_, rfl⟩
      rw [hrn] at z2 z3 hl
      subst z3
      obtain ⟨an, rfl⟩ : ∃ an : Nat, at' = (an : Int) := ⟨at'.toNat, by omega⟩
      have hL3 : L.length ≤ 25 := by omega
      rw [Int.toNat_natCast] at hl
      have hlt2 := hA.lt
      have kc' : kCl ⟨rn, level, an⟩ = .agg [.lit (.int .i64 (rn : Int)), .lit (.int .i64 level), .lit (.int .i64 (an : Int))] := rfl
      refine CallK_pure call22 (cloneIt L hL2) (allc (.vec (pure_rows pure_encI _)) alln) (.vec (pure_rows pure_encI _)) ?_
      simp -implicitDefEqProofs (disch := omega) only [Xzz, Yzy, Dzz, ↓reduceIte, reduceCtorEq, Nat.reduceLT, Nat.reduceEqDiff, Nat.reduceAdd, Nat.reduceLeDiff, Nat.reducePow, Nat.reduceMul, tyW, Azz]
      refine CallK_of call21 (use_at n o x y z L H ai hA) ?_
      rintro r H2 ⟨rfl, u⟩
      have n2 := u.nx
      have hwa := ask_at (whole_spec n o L N.w N.ok rk hrk N.ho hL3 ⟨rn, level, an⟩ z2 (by show an ≤ _; omega)) (pure_maskV _) H2 ai _ _ [] [] WOk.nil OOk.nil u.b0 u.t1 u.t2 (Nat.ne_of_lt hlt2) (Nat.ne_of_lt (Nat.lt_succ_of_lt hlt2)) (Nat.ne_of_lt (Nat.lt_succ_self _)) (by rw [n2]; exact Nat.lt_succ_of_lt (Nat.lt_succ_of_lt hlt2)) (by rw [n2]; exact Nat.lt_succ_of_lt (Nat.lt_succ_self _)) (by rw [n2]; exact Nat.lt_succ_self _) u.t0
      rw [kc'] at hwa
      simp -implicitDefEqProofs (disch := omega) only [Xzz, Yzy, Dzz, ↓reduceIte, reduceCtorEq, Nat.reduceLT, Nat.reduceEqDiff, Nat.reduceAdd, Nat.reduceLeDiff, Nat.reducePow, Nat.reduceMul, tyW, Azz]
      refine CallK_of call23 hwa ?_
      rintro r h' ⟨rfl, W', O', hW', hO', rfl⟩
      have hpl := places_spec (whW n o L ⟨rn, level, an⟩) (L.length + 1) (whW_lt hL3) (by omega)
      rw [show ((L.length + 1 : Nat) : Int) = (L.length : Int) + 1 by omega] at hpl
      simp -implicitDefEqProofs (disch := omega) only [Xzz, Yzy, Dzz, ↓reduceIte, reduceCtorEq, Nat.reduceLT, Nat.reduceEqDiff, Nat.reduceAdd, Nat.reduceLeDiff, Nat.reducePow, Nat.reduceMul, tyW, Azz]
      refine CallK_pure call24 hpl (allc (pure_maskV _) (allc (.lit _) alln)) (.vec (pure_rows (fun x => pure_lits (by simp [rowI])) _)) ?_
      simp -implicitDefEqProofs (disch := omega) only [Xzz, Yzy, Dzz, ↓reduceIte, reduceCtorEq, Nat.reduceLT, Nat.reduceEqDiff, Nat.reduceAdd, Nat.reduceLeDiff, Nat.reducePow, Nat.reduceMul, tyW, Azz]
      have hl' : plcs (whW n o L ⟨rn, level, an⟩) (L.length + 1) = l := hl
      rw [hl']
      exact ⟨⟨[(10, .vec (l.map rowI) false), (11, .lit (.int .i64 0))], ⟨up H.boxes ai (askC n o L H.nx (H.nx + 1)), H.toks, H.nx + 2⟩, 55⟩, wk_lk (allc rfl (allc rfl alln)) (fun i c e => by rw [u.bb]; exact e) (fun i k e => u.tt i k W' O' e) n2.symm rfl, hRi _ _ _ _ _ (Nat.le_succ_of_le (Nat.le_succ _))⟩
    · have hne0 : (e0 == 0) = false := by simpa using h0
      simp -implicitDefEqProofs (disch := omega) only [Xzz, Yzy, Dzz, ↓reduceIte, reduceCtorEq, Nat.reduceLT, Nat.reduceEqDiff, Nat.reduceAdd, Nat.reduceLeDiff, Nat.reducePow, Nat.reduceMul, tyW, Azz, hne2, hne0]
      exact fin0 _ rfl rfl h0 rfl rfl
end Go.Proofs.Ytbbnfbnicacdoaa
end
section
namespace Go.Proofs.Ytbbnfbnicacdoaa
open Go Go.Ab
set_option linter.unusedSimpArgs false
set_option linter.unusedVariables false
set_option maxRecDepth 20000
set_option maxHeartbeats 4000000
theorem AtA.left {n : Nt} {o : List Orc} {H : Hp} {ai m : Nat} {x y z x' y' z' : AV} (h : AtA n o H ai x y z) (hm : H.nx ≤ m) : AtA n o ⟨up H.boxes ai (askX n o x' y' z'), H.toks, m⟩ ai x' y' z' := by
  have hlt := h.lt
  refine ⟨?_, fun i hi => ?_, fun i hi => ?_, h.nt⟩
  · show lk (up _ _ _) ai = _
    rw [lk_up, if_pos rfl, h.bx]; rfl
  · have hi : m ≤ i := hi
    show lk (up _ _ _) i = none
    rw [lk_up, if_neg (by omega)]; exact h.fb i (by omega)
  · have hi : m ≤ i := hi
    exact h.ft i (by omega)
noncomputable def viaN (n : Nt) (o : List Orc) (rule : Nat) (L : List It) : Nat → Nat
  | 0 => 0
  | k + 1 => if viaV n o rule (L.take (k + 1)) then k + 1 else viaN n o rule L k
theorem Viable_spec (n : Nt) (o : List Orc) (N : NetOk n o) (rule : Int) (L : List It) (hL : L.length ≤ 25 ∨ 601 < L.length) (hL2 : L.length ≤ 1000000000) (H : Hp) (ai : Nat) (x y z : AV) (hA : AtA n o H ai x y z) :
    SCall Try.prog 9 [.ptr ai 0, .lit (.int .i64 rule), .vec (L.map encI) false] H fun r h' =>
      r = .tup [.lit (.int .i64 ((if asksV n rule L.length = 0 then viaN n o rule.toNat L L.length else 0 : Nat) : Int)), .lit (.int .i64 (asksV n rule L.length))] ∧ LeftA n o H ai h' := by
  have hlt := hA.lt
  have hask := asks_spec n o x y z rule L.length H ai (by have := N.ok.rules; omega) hA.bx
  have hz := fun q => asksV_0 (n := n) (rule := rule) (k := L.length) q
  obtain ⟨v, hv⟩ : ∃ v, (if asksV n rule L.length = 0 then viaN n o rule.toNat L L.length else 0 : Nat) = v := ⟨_, rfl⟩
  rw [hv]
  obtain ⟨e, he⟩ : ∃ e, asksV n rule L.length = e := ⟨_, rfl⟩
  rw [he] at hask hz hv ⊢
  obtain ⟨R, hR⟩ : ∃ R : AV → Hp → Prop, (fun r h' => r = AV.tup [.lit (.int .i64 (v : Int)), .lit (.int .i64 e)] ∧ LeftA n o H ai h') = R := ⟨_, rfl⟩
  have hRi : ∀ x y z m, H.nx ≤ m → R (.tup [.lit (.int .i64 (v : Int)), .lit (.int .i64 e)]) ⟨up H.boxes ai (askX n o x y z), H.toks, m⟩ := fun x y z m h => by rw [← hR]; exact ⟨rfl, x, y, z, m, h, rfl⟩
  rw [hR]
  refine SCall_introW Try.func9 rfl Try.ntmps9 (rs := [.tmp 6, .tmp 7]) rfl (by simp) ?_
  have fin : ∀ (σ' : St) x' y' z' m, H.nx ≤ m → σ'.hp = ⟨up H.boxes ai (askX n o x' y' z'), H.toks, m⟩ → σ'.nt = 31 → lk σ'.slots 6 = some (.lit (.int .i64 (v : Int))) → lk σ'.slots 7 = some (.lit (.int .i64 e)) → ∃ σ'', St.wk σ' σ'' ∧ resK (resOf Try.prog σ'' [.tmp 6, .tmp 7]) R σ''.hp := fun σ' x' y' z' m hm e1 e2 e3 e4 =>
    ⟨⟨[(6, .lit (.int .i64 (v : Int))), (7, .lit (.int .i64 e))], _, 31⟩, wk_lk (allc e3 (allc e4 alln)) (fun i c e => by rw [e1]; exact e) (fun i c e => by rw [e1]; exact e) (by rw [e1]) (by rw [e2]), hRi x' y' z' m hm⟩
  have hH : H = ⟨up H.boxes ai (askX n o x y z), H.toks, H.nx⟩ := by rw [up_same hA.bx]
  simp -implicitDefEqProofs (disch := omega) only [Xzz, Yzy, Dzz, ↓reduceIte, reduceCtorEq, Nat.reduceLT, Nat.reduceEqDiff, Nat.reduceAdd, Nat.reduceLeDiff, Nat.reducePow, Nat.reduceMul, tyW, Azz]
  refine CallK_of call19 hask ?_
  rintro r h' ⟨rfl, hh⟩
  rw [hh]
  clear hh
  by_cases h0 : e = 0
  · obtain ⟨z1, z2, z3, z4⟩ := hz h0
    rw [if_pos h0] at hv
    subst h0
    obtain ⟨rn, hrn⟩ : ∃ rn, rule.toNat = rn := ⟨_, rfl⟩
    rw [hrn] at z2 z3 hv
    subst z3
    have hL3 : L.length ≤ 25 := by omega
    simp -implicitDefEqProofs (disch := omega) only [Xzz, Yzy, Dzz, ↓reduceIte, reduceCtorEq, Nat.reduceLT, Nat.reduceEqDiff, Nat.reduceAdd, Nat.reduceLeDiff, Nat.reducePow, Nat.reduceMul, tyW, Azz]
    refine aw_measA (fun x : Nat × AV × AV × AV × Nat => ⟨[(9, .lit (.int .i64 (x.1 : Int))), (0, .ptr ai 0), (1, .lit (.int .i64 (rn : Int))), (2, .vec (L.map encI) false)], ⟨up H.boxes ai (askX n o x.2.1 x.2.2.1 x.2.2.2.1), H.toks, x.2.2.2.2⟩, 31⟩) (fun x => x.1 ≤ L.length ∧ viaN n o rn L x.1 = v ∧ H.nx ≤ x.2.2.2.2) (fun x => x.1)
      (L.length, x, y, z, H.nx) (wk_lk (by simp [lk]) (fun i c q => by rw [up_same hA.bx] at q; exact q) (fun _ _ q => q) rfl rfl) ⟨Nat.le_refl _, hv, Nat.le_refl _⟩ ?_
    rintro ⟨k, x1, y1, z1, m1⟩ ⟨hk, hkv, hm⟩
    simp only at hk hkv hm ⊢
    refine aw_of ?_
    cases k with
    | zero =>
      have hkv : 0 = v := hkv
      subst hkv
      simp -implicitDefEqProofs (disch := omega) only [Xzz, Yzy, Dzz, ↓reduceIte, reduceCtorEq, Nat.reduceLT, Nat.reduceEqDiff, Nat.reduceAdd, Nat.reduceLeDiff, Nat.reducePow, Nat.reduceMul, tyW, Azz, Int.natCast_zero]
      exact fin _ x1 y1 z1 m1 hm rfl rfl rfl rfl
    | succ k =>
      have hsl := sliceIt L hk
      have hvi := viable_spec n o N rn z2 (L.take (k + 1)) (by simp; omega) ⟨up H.boxes ai (askX n o x1 y1 z1), H.toks, m1⟩ ai x1 y1 z1 (hA.left hm)
      unfold viaN at hkv
      simp -implicitDefEqProofs (disch := omega) only [Xzz, Yzy, Dzz, ↓reduceIte, reduceCtorEq, Nat.reduceLT, Nat.reduceEqDiff, Nat.reduceAdd, Nat.reduceLeDiff, Nat.reducePow, Nat.reduceMul, tyW, Azz, hsl]
      refine CallK_of call20 hvi ?_
      rintro r h' ⟨rfl, x2, y2, z2, m2, hm2, rfl⟩
      have hm2 : m1 ≤ m2 := hm2
      cases hvv : viaV n o rn (L.take (k + 1)) with
      | true =>
        rw [hvv] at hkv
        simp only [if_true] at hkv
        subst hkv
        simp -implicitDefEqProofs (disch := omega) only [Xzz, Yzy, Dzz, ↓reduceIte, reduceCtorEq, Nat.reduceLT, Nat.reduceEqDiff, Nat.reduceAdd, Nat.reduceLeDiff, Nat.reducePow, Nat.reduceMul, tyW, Azz, up_up]
        exact fin _ x2 y2 z2 m2 (by omega) rfl rfl rfl rfl
      | false =>
        rw [hvv] at hkv
        simp only [Bool.false_eq_true, if_false] at hkv
        have hc : ((k + 1 : Nat) : Int) - 1 = (k : Int) := by omega
        simp -implicitDefEqProofs (disch := omega) only [Xzz, Yzy, Dzz, ↓reduceIte, reduceCtorEq, Nat.reduceLT, Nat.reduceEqDiff, Nat.reduceAdd, Nat.reduceLeDiff, Nat.reducePow, Nat.reduceMul, tyW, Azz, up_up, hc]
        exact ⟨(k, x2, y2, z2, m2), ⟨by show k ≤ _; omega, hkv, by show H.nx ≤ m2; omega⟩, by show k < k + 1; omega, wk_lk (by simp [lk]) (fun _ _ q => q) (fun _ _ q => q) rfl rfl⟩
  · have hne0 : (e == 0) = false := by simpa using h0
    rw [if_neg h0] at hv
    subst hv
    simp -implicitDefEqProofs (disch := omega) only [Xzz, Yzy, Dzz, ↓reduceIte, reduceCtorEq, Nat.reduceLT, Nat.reduceEqDiff, Nat.reduceAdd, Nat.reduceLeDiff, Nat.reducePow, Nat.reduceMul, tyW, Azz, hne0, Int.natCast_zero]
    exact fin _ x y z H.nx (Nat.le_refl _) hH rfl rfl rfl
end Go.Proofs.Ytbbnfbnicacdoaa
end
section
namespace Go.Proofs.Ytbbnfbnicacdoaa
open Go Go.Ab
set_option linter.unusedSimpArgs false
set_option linter.unusedVariables false
set_option maxRecDepth 20000
set_option maxHeartbeats 4000000
theorem sliceIt3 (L : List It) : sliceV 5 (L.map encI) false none (some (L.length : Int)) (some (L.length : Int)) = some (.vec (L.map encI) true) := by
  unfold sliceV
  simp only [Option.getD_none, Option.getD_some]
  rw [if_pos ⟨by decide, by omega, Int.le_refl _, by simp, fun q => rfl, encI_len L⟩]
  have e : ((L.map encI).drop (0 : Int).toNat).take ((L.length : Int).toNat - (0 : Int).toNat) = L.map encI := by
    simp [List.take_of_length_le]
  rw [e]
  simp [fullOf]
def itN (t : Nat) (ix col : Int) : It := ⟨(t : Int), ix, col, false, 0⟩
noncomputable def nextL (n : Nt) (o : List Orc) (rule : Nat) (L : List It) (ix col : Int) (K : Nat) : List Nat := (List.range K).filter fun t => viaV n o rule (L ++ [itN t ix col])
theorem nextL_succ (n : Nt) (o : List Orc) (rule : Nat) (L : List It) (ix col : Int) (K : Nat) : nextL n o rule L ix col (K + 1) = if viaV n o rule (L ++ [itN K ix col]) then nextL n o rule L ix col K ++ [K] else nextL n o rule L ix col K := by
  unfold nextL
  rw [List.range_succ, List.filter_append]
  cases h : viaV n o rule (L ++ [itN K ix col]) <;> simp [h]
theorem nextL_len (n : Nt) (o : List Orc) (rule : Nat) (L : List It) (ix col : Int) (K : Nat) : (nextL n o rule L ix col K).length ≤ K := by
  have := List.length_filter_le (fun t => viaV n o rule (L ++ [itN t ix col])) (List.range K)
  unfold nextL; simpa using this
theorem Next_spec (n : Nt) (o : List Orc) (N : NetOk n o) (rule ix col : Int) (L : List It) (hL : L.length ≤ 24 ∨ 601 < L.length) (hL2 : L.length ≤ 1000000000) (H : Hp) (ai : Nat) (x y z : AV) (hA : AtA n o H ai x y z) :
    SCall Try.prog 10 [.ptr ai 0, .lit (.int .i64 rule), .vec (L.map encI) false, .lit (.int .i64 ix), .lit (.int .i64 col)] H fun r h' =>
      (∃ f, r = .tup [.vec ((if asksV n rule L.length = 0 then nextL n o rule.toNat L ix col (n.types.length + 1) else []).map rowI) f, .lit (.int .i64 (asksV n rule L.length))]) ∧ LeftA n o H ai h' := by
  have hlt := hA.lt
  have hask := asks_spec n o x y z rule L.length H ai (by have := N.ok.rules; omega) hA.bx
  have hz := fun q => asksV_0 (n := n) (rule := rule) (k := L.length) q
  have hty := N.w.ntp
  obtain ⟨l, hl⟩ : ∃ l, (if asksV n rule L.length = 0 then nextL n o rule.toNat L ix col (n.types.length + 1) else []) = l := ⟨_, rfl⟩
  rw [hl]
  obtain ⟨e, he⟩ : ∃ e, asksV n rule L.length = e := ⟨_, rfl⟩
  rw [he] at hask hz hl ⊢
  obtain ⟨R, hR⟩ : ∃ R : AV → Hp → Prop, (fun r h' => (∃ f, r = AV.tup [.vec (l.map rowI) f, .lit (.int .i64 e)]) ∧ LeftA n o H ai h') = R := ⟨_, rfl⟩
  have hRi : ∀ f x y z m, H.nx ≤ m → R (.tup [.vec (l.map rowI) f, .lit (.int .i64 e)]) ⟨up H.boxes ai (askX n o x y z), H.toks, m⟩ := fun f x y z m h => by rw [← hR]; exact ⟨⟨f, rfl⟩, x, y, z, m, h, rfl⟩
  rw [hR]
  refine SCall_introW Try.func10 rfl Try.ntmps10 (rs := [.tmp 10, .tmp 11]) rfl (by simp) ?_
  have hH : H = ⟨up H.boxes ai (askX n o x y z), H.toks, H.nx⟩ := by rw [up_same hA.bx]
  simp -implicitDefEqProofs (disch := omega) only [Xzz, Yzy, Dzz, ↓reduceIte, reduceCtorEq, Nat.reduceLT, Nat.reduceEqDiff, Nat.reduceAdd, Nat.reduceLeDiff, Nat.reducePow, Nat.reduceMul, tyW, Azz]
  refine CallK_of call19 hask ?_
  rintro r h' ⟨rfl, hh⟩
  rw [hh]
  clear hh
  by_cases h0 : e = 0
  · obtain ⟨z1, z2, z3, z4⟩ := hz h0
    rw [if_pos h0] at hl
    subst h0
    obtain ⟨rn, hrn⟩ : ∃ rn, rule.toNat = rn := ⟨_, rfl⟩
    rw [hrn] at z2 z3 hl
    subst z3
    have hL3 : L.length ≤ 24 := by omega
    have hb := hA.bx
    unfold askX encN at hb
    simp only [List.cons_append, List.nil_append] at hb
    simp -implicitDefEqProofs (disch := omega) only [Xzz, Yzy, Dzz, ↓reduceIte, reduceCtorEq, Nat.reduceLT, Nat.reduceEqDiff, Nat.reduceAdd, Nat.reduceLeDiff, Nat.reducePow, Nat.reduceMul, tyW, Azz, hb]
    refine aw_measA (fun x : Nat × Nat × AV × AV × AV × Nat => ⟨[(29, .lit (.int .i64 (x.1 : Int))), (28, .lit (.int .i64 ((n.types.length : Int) + 1))), (10, gV x.2.1 (nextL n o rn L ix col x.1)), (0, .ptr ai 0), (1, .lit (.int .i64 (rn : Int))), (2, .vec (L.map encI) false), (3, .lit (.int .i64 ix)), (4, .lit (.int .i64 col))], ⟨up H.boxes ai (askX n o x.2.2.1 x.2.2.2.1 x.2.2.2.2.1), H.toks ++ nTok (x.2.1, nextL n o rn L ix col x.1), x.2.2.2.2.2⟩, 53⟩) (fun x => x.1 ≤ n.types.length + 1 ∧ H.nx ≤ x.2.2.2.2.2 ∧ (nextL n o rn L ix col x.1 ≠ [] → H.nx ≤ x.2.1 ∧ x.2.1 < x.2.2.2.2.2)) (fun x => n.types.length + 1 - x.1)
      (0, 0, x, y, z, H.nx) (wk_lk (by simp [lk]; rfl) (fun i c q => by rw [up_same hA.bx] at q; exact q) (fun i k q => by rw [show H.toks ++ nTok (0, nextL n o rn L ix col 0) = H.toks from List.append_nil _] at q; exact q) rfl rfl) ⟨Nat.zero_le _, Nat.le_refl _, fun q => absurd rfl q⟩ ?_
    rintro ⟨t, tk, x1, y1, z1, m1⟩ ⟨ht, hm, hk⟩
    simp only at ht hm hk ⊢
    refine aw_of ?_
    have hnl := nextL_len n o rn L ix col t
    rcases Nat.lt_or_ge t (n.types.length + 1) with hlt' | hge
    · have hsu := nextL_succ n o rn L ix col t
      obtain ⟨l1, hl1⟩ : ∃ l1, nextL n o rn L ix col t = l1 := ⟨_, rfl⟩
      rw [hl1] at hk hnl hsu ⊢
      obtain ⟨T, hT⟩ : ∃ T, H.toks ++ nTok (tk, l1) = T := ⟨_, rfl⟩
      have hTt : ∀ i, m1 ≤ i → lk T i = none := fun i hi => by
        rw [← hT, lk_app, hA.ft i (by omega)]
        cases l1 with
        | nil => rfl
        | cons a l1 => have := hk (by simp); simp only [nTok, lk]; rw [if_neg (by omega)]; rfl
      have hTa : lk T ai = none := by
        rw [← hT, lk_app, hA.nt]
        cases l1 with
        | nil => rfl
        | cons a l1 => have := hk (by simp); simp only [nTok, lk]; rw [if_neg (by omega)]; rfl
      have hTl : l1 ≠ [] → lk T tk = some ⟨l1.map rowI, 0, 1⟩ := fun q => by
        have := hk q
        rw [← hT, lk_app, hA.ft tk this.1]
        cases l1 with
        | nil => exact absurd rfl q
        | cons a l1 => simp [nTok, lk]
      have hTH : ∀ i k, lk H.toks i = some k → lk T i = some k := fun i k q => by rw [← hT, lk_app, q]; rfl
      rw [hT]
      have hfit : fits (L.length + 1) 40 := fits_of' (by omega) (by omega)
      have hs3 := sliceIt3 L
      have hTn : ∀ k, lk (T ++ [(m1, k)]) m1 = some k := fun k => by rw [lk_app, hTt m1 (Nat.le_refl _)]; simp [lk]
      have hq2 : (∀ q : List AV, q ∈ L.map encI → q.length = 5) = True := eq_true (encI_len L)
      have hrow : L.map encI ++ [[.lit (.int .i64 (t : Int)), .lit (.int .i64 ix), .lit (.int .i64 col), .lit (.bool false), .lit (.int .i64 0)]] = (L ++ [itN t ix col]).map encI := by simp [itN, encI]
      have hrl : ((L ++ [itN t ix col]).map encI).length = L.length + 1 := by simp
      simp -implicitDefEqProofs (disch := omega) only [Xzz, Yzy, Dzz, ↓reduceIte, reduceCtorEq, Nat.reduceLT, Nat.reduceEqDiff, Nat.reduceAdd, Nat.reduceLeDiff, Nat.reducePow, Nat.reduceMul, tyW, Azz, hs3, hfit, hTn, hq2, hrow, List.mem_singleton, forall_eq, if_true, List.length_cons, List.length_nil]
      have hut : ∀ k k' : Tk, up (T ++ [(m1, k)]) m1 k' = T ++ [(m1, k')] := fun k k' => up_app (hTt m1 (Nat.le_refl _))
      have hAt : ∀ k : Tk, AtA n o ⟨up H.boxes ai (askX n o x1 y1 z1), T ++ [(m1, k)], m1 + 1⟩ ai x1 y1 z1 := fun k => by
        have h1 := hA.left (x' := x1) (y' := y1) (z' := z1) hm
        refine ⟨h1.bx, fun i hi => ?_, fun i hi => ?_, ?_⟩
        · have hi : m1 + 1 ≤ i := hi
          exact h1.fb i (by show m1 ≤ i; omega)
        · have hi : m1 + 1 ≤ i := hi
          show lk (T ++ [(m1, k)]) i = none
          rw [lk_app, hTt i (by omega)]; simp only [lk]; rw [if_neg (by omega)]; rfl
        · show lk (T ++ [(m1, k)]) ai = none
          rw [lk_app, hTa]; simp only [lk]; rw [if_neg (by omega)]; rfl
      refine CallK.freeze (t := m1) (k := ⟨(L ++ [itN t ix col]).map encI, 0, 5⟩) (args1 := [.ptr ai 0, .lit (.int .i64 (rn : Int)), .vec ((L ++ [itN t ix col]).map encI) false]) (hTn _) (fun g g' e c => cvL_cons (cv_refl e _) (cvL_cons (cv_refl e _) (cvL_cons (by rw [hrl] at c; exact c) cvL_nil))) ?_
      simp -implicitDefEqProofs (disch := omega) only [hut]
      refine CallK_of call20 (viable_spec n o N rn z2 (L ++ [itN t ix col]) (by simp; omega) _ ai x1 y1 z1 (hAt _)) ?_
      rintro r h' ⟨rfl, x2, y2, z2, m2, hm2, rfl⟩
      have hm2 : m1 + 1 ≤ m2 := hm2
      cases hvv : viaV n o rn (L ++ [itN t ix col]) with
      | false =>
        rw [hvv] at hsu
        simp only [Bool.false_eq_true, if_false] at hsu
        simp -implicitDefEqProofs (disch := omega) only [Xzz, Yzy, Dzz, ↓reduceIte, reduceCtorEq, Nat.reduceLT, Nat.reduceEqDiff, Nat.reduceAdd, Nat.reduceLeDiff, Nat.reducePow, Nat.reduceMul, tyW, Azz, up_up]
        refine ⟨(t + 1, tk, x2, y2, z2, m2), ⟨by show t + 1 ≤ _; omega, by show H.nx ≤ m2; omega, fun q => ?_⟩, by show n.types.length + 1 - (t + 1) < _; omega, ?_⟩
        · have q : nextL n o rn L ix col (t + 1) ≠ [] := q
          rw [hsu] at q
          have := hk q
          exact ⟨this.1, by show tk < m2; omega⟩
        · simp only
          rw [hsu, hT]
          exact wk_lk (by simp [lk]) (fun _ _ q => q) (fun _ _ q => lk_pre q) rfl rfl
      | true =>
        rw [hvv] at hsu
        simp only [if_true] at hsu
        have hTm : ∀ k : Tk, tk < m1 → lk (T ++ [(m1, k)]) tk = lk T tk := fun k q => by
          rw [lk_app]; simp only [lk]; rw [if_neg (by omega), Option.or_none]
        cases l1 with
        | nil =>
          have hf1 : fits 1 8 := by decide
          have hg0 : gV tk [] = .vec [] true := rfl
          simp -implicitDefEqProofs (disch := omega) only [Xzz, Yzy, Dzz, ↓reduceIte, reduceCtorEq, Nat.reduceLT, Nat.reduceEqDiff, Nat.reduceAdd, Nat.reduceLeDiff, Nat.reducePow, Nat.reduceMul, tyW, Azz, up_up, hg0, List.mem_singleton, forall_eq, List.not_mem_nil, false_imp_iff, implies_true, hf1, if_true, List.length_cons, List.length_nil]
          refine ⟨(t + 1, m2, x2, y2, z2, m2 + 1), ⟨by show t + 1 ≤ _; omega, by show H.nx ≤ m2 + 1; omega, fun q => ⟨by show H.nx ≤ m2; omega, by show m2 < m2 + 1; omega⟩⟩, by show n.types.length + 1 - (t + 1) < _; omega, ?_⟩
          simp only
          rw [hsu, show gV m2 ([] ++ [t]) = .own m2 1 from rfl, show nTok (m2, [] ++ [t]) = [(m2, (⟨[rowI t], 0, 1⟩ : Tk))] from rfl]
          refine wk_lk (by simp [lk]) (fun _ _ q => q) (fun i k q => ?_) rfl rfl
          have q1 : lk (H.toks ++ [(m2, (⟨[rowI t], 0, 1⟩ : Tk))]) i = some k := q
          clear q
          show lk (T ++ [(m1, _)] ++ [(m2, (⟨[rowI t], 0, 1⟩ : Tk))]) i = some k
          rw [lk_app] at q1 ⊢
          cases hc : lk H.toks i with
          | some k' =>
            rw [hc] at q1
            rw [lk_app, hTH i k' hc]; exact q1
          | none =>
            rw [hc] at q1
            simp only [lk, Option.none_or] at q1
            by_cases hi : m2 = i
            · subst hi
              simp only [if_true] at q1
              rw [lk_app, hTt m2 (by omega)]
              simp only [lk, if_true]
              rw [if_neg (by omega)]; exact q1
            · rw [if_neg hi] at q1; cases q1
        | cons a l' =>
          obtain ⟨k1, k2⟩ := hk (by simp)
          have hlT := hTl (by simp)
          have hgl : ∀ k : Tk, lk (T ++ [(m1, k)]) tk = some ⟨(a :: l').map rowI, 0, 1⟩ := fun k => by rw [hTm k k2]; exact hlT
          simp only [List.length_cons] at hnl
          have hf1 : fits (l'.length + 1 + 1) 8 := fits_of' (by omega) (by omega)
          have hgc : gV tk (a :: l') = .own tk (l'.length + 1) := rfl
          simp -implicitDefEqProofs (disch := omega) only [Xzz, Yzy, Dzz, ↓reduceIte, reduceCtorEq, Nat.reduceLT, Nat.reduceEqDiff, Nat.reduceAdd, Nat.reduceLeDiff, Nat.reducePow, Nat.reduceMul, tyW, Azz, up_up, hgc, List.mem_singleton, forall_eq, List.not_mem_nil, false_imp_iff, implies_true, hf1, hgl, if_true, List.length_cons, List.length_nil, List.length_map]
          refine ⟨(t + 1, tk, x2, y2, z2, m2), ⟨by show t + 1 ≤ _; omega, by show H.nx ≤ m2; omega, fun q => ⟨k1, by show tk < m2; omega⟩⟩, by show n.types.length + 1 - (t + 1) < _; omega, ?_⟩
          simp only
          rw [hsu, show gV tk (a :: l' ++ [t]) = .own tk (l'.length + 1 + 1) from by rw [gV_snoc]; simp, show nTok (tk, a :: l' ++ [t]) = [(tk, (⟨(a :: l' ++ [t]).map rowI, 0, 1⟩ : Tk))] from rfl]
          refine wk_lk (by simp [lk]) (fun _ _ q => q) (fun i k q => ?_) rfl rfl
          have q : lk (H.toks ++ [(tk, (⟨(a :: l' ++ [t]).map rowI, 0, 1⟩ : Tk))]) i = some k := q
          show lk (up (T ++ [(m1, _)]) tk _) i = some k
          rw [lk_app] at q
          rw [lk_up]
          by_cases hi : tk = i
          · subst hi
            rw [hA.ft tk k1] at q
            simp only [lk, if_true, Option.none_or] at q
            rw [if_pos rfl, hgl, ← q]
            simp [rowI]
          · rw [if_neg hi]
            simp only [lk, if_neg hi, Option.or_none] at q
            rw [lk_app, hTH i k q]; rfl
    · have hte : t = n.types.length + 1 := by omega
      rw [hte, hl]
      rw [hte, hl] at hk
      simp -implicitDefEqProofs (disch := omega) only [Xzz, Yzy, Dzz, ↓reduceIte, reduceCtorEq, Nat.reduceLT, Nat.reduceEqDiff, Nat.reduceAdd, Nat.reduceLeDiff, Nat.reducePow, Nat.reduceMul, tyW, Azz]
      cases hcl : l with
      | nil =>
        have := hRi true x1 y1 z1 m1 hm
        rw [hcl] at this
        exact ⟨⟨[(10, .vec [] true), (11, .lit (.int .i64 0))], ⟨up H.boxes ai (askX n o x1 y1 z1), H.toks, m1⟩, 53⟩, wk_lk (allc rfl (allc rfl alln)) (fun _ _ q => q) (fun _ _ q => lk_pre q) rfl rfl, this⟩
      | cons a l' =>
        obtain ⟨k1, k2⟩ := hk (by rw [hcl]; simp)
        have := hRi false x1 y1 z1 m1 hm
        rw [hcl] at this
        refine ⟨⟨[(10, .vec ((a :: l').map rowI) false), (11, .lit (.int .i64 0))], ⟨up H.boxes ai (askX n o x1 y1 z1), H.toks, m1⟩, 53⟩, wk_frz (t := tk) (k := ⟨(a :: l').map rowI, 0, 1⟩) ?_ rfl rfl (allc ⟨_, rfl, .inr ⟨by rw [gV_cons (by simp)]; simp, rfl⟩⟩ (allc ⟨_, rfl, .inl rfl⟩ alln)) (fun _ _ q => q) (fun i c q => ?_), this⟩
        · show lk (H.toks ++ nTok (tk, a :: l')) tk = _
          rw [lk_app, hA.ft tk k1]; simp [nTok, lk]
        · have q : lk H.toks i = some c := q
          refine ⟨fun qq => ?_, lk_pre q⟩
          rw [qq, hA.ft tk k1] at q; cases q
  · have hne0 : (e == 0) = false := by simpa using h0
    rw [if_neg h0] at hl
    subst hl
    simp -implicitDefEqProofs (disch := omega) only [Xzz, Yzy, Dzz, ↓reduceIte, reduceCtorEq, Nat.reduceLT, Nat.reduceEqDiff, Nat.reduceAdd, Nat.reduceLeDiff, Nat.reducePow, Nat.reduceMul, tyW, Azz, hne0]
    exact ⟨⟨[(10, .vec [] true), (11, .lit (.int .i64 e))], H, 53⟩, wk_lk (allc rfl (allc rfl alln)) (fun _ _ q => q) (fun _ _ q => q) rfl rfl, by
      have := hRi true x y z H.nx (Nat.le_refl _)
      rw [up_same hA.bx] at this
      exact this⟩
end Go.Proofs.Ytbbnfbnicacdoaa
end
section
namespace Go.Proofs.Ytbbnfbnicacdoaa
open Go Go.Ab
set_option linter.unusedSimpArgs false
set_option linter.unusedVariables false
set_option maxRecDepth 20000
set_option maxHeartbeats 4000000
theorem New_spec (n : Nt) (o : List Orc) (ok : NtOk n) (ho : o.length ≤ 1000000000) (H : Hp) (hf : ∀ i, H.nx ≤ i → lk H.boxes i = none) :
    SCall Try.prog 8 [.agg (encN n), .vec (o.map encO) false] H fun r h' =>
      (okV n = true → r = .tup [.ptr (H.nx + 1) 0, .lit (.int .i64 0)] ∧ h' = ⟨H.boxes ++ [(H.nx + 1, askX n o (.vec [] true) (.lit (.map none)) (.lit (.map none)))], H.toks, H.nx + 2⟩) ∧ (okV n = false → r = .tup [.lit (.pointer none), .lit (.int .i64 110)] ∧ h' = ⟨H.boxes, H.toks, H.nx + 1⟩) := by
  have hck := check_spec n ok
  refine SCall_introW Try.func8 rfl Try.ntmps8 (rs := [.tmp 4, .tmp 5]) rfl (by simp) ?_
  have hnx0 : ∀ c, lk (H.boxes ++ [(H.nx, c)]) H.nx = some c := fun c => by rw [lk_app, hf _ (Nat.le_refl _)]; simp [lk]
  unfold encN at hck
  simp -implicitDefEqProofs (disch := omega) only [Xzz, Yzy, Dzz, ↓reduceIte, reduceCtorEq, Nat.reduceLT, Nat.reduceEqDiff, Nat.reduceAdd, Nat.reduceLeDiff, Nat.reducePow, Nat.reduceMul, tyW, Azz, encN, hnx0]
  refine CallK_k call17 hck (allc (.of_pure (.agg (pure_encN n))) alln) (.lit _) ?_
  cases hok : okV n with
  | false =>
    simp -implicitDefEqProofs (disch := omega) only [Xzz, Yzy, Dzz, ↓reduceIte, reduceCtorEq, Nat.reduceLT, Nat.reduceEqDiff, Nat.reduceAdd, Nat.reduceLeDiff, Nat.reducePow, Nat.reduceMul, tyW, Azz]
    refine ⟨⟨[(4, .lit (.pointer none)), (5, .lit (.int .i64 110))], ⟨H.boxes, H.toks, H.nx + 1⟩, 14⟩, wk_lk (allc rfl (allc rfl alln)) (fun _ _ q => lk_pre q) (fun _ _ q => q) rfl rfl, ?_⟩
    exact ⟨fun q => (by cases q), fun _ => ⟨rfl, rfl⟩⟩
  | true =>
    simp -implicitDefEqProofs (disch := omega) only [Xzz, Yzy, Dzz, ↓reduceIte, reduceCtorEq, Nat.reduceLT, Nat.reduceEqDiff, Nat.reduceAdd, Nat.reduceLeDiff, Nat.reducePow, Nat.reduceMul, tyW, Azz]
    refine aw_drawQ (n := 14) 3 (.alt 3 (.alt 4 (.alt 5 (.alt 6 .leaf .nil) .nil) .nil) .nil) rfl (by decide) (by decide) mixed (by kernel_rfl) (by decide) ?_
    simp -implicitDefEqProofs (disch := omega) only [Xzz, Yzy, Dzz, ↓reduceIte, reduceCtorEq, Nat.reduceLT, Nat.reduceEqDiff, Nat.reduceAdd, Nat.reduceLeDiff, Nat.reducePow, Nat.reduceMul, tyW, Azz, hnx0]
    refine CallQ_pure call18 (cloneOrc o ho) (allc (.vec (pure_rows pure_encO _)) alln) (.vec (pure_rows pure_encO _)) ?_
    simp -implicitDefEqProofs (disch := omega) only [Xzz, Yzy, Dzz, ↓reduceIte, reduceCtorEq, Nat.reduceLT, Nat.reduceEqDiff, Nat.reduceAdd, Nat.reduceLeDiff, Nat.reducePow, Nat.reduceMul, tyW, Azz, hnx0]
    refine ⟨⟨[(4, .ptr (H.nx + 1) 0), (5, .lit (.int .i64 0))], ⟨H.boxes ++ [(H.nx + 1, askX n o (.vec [] true) (.lit (.map none)) (.lit (.map none)))], H.toks, H.nx + 2⟩, 14⟩, wk_lk (allc rfl (allc rfl alln)) (fun i c q => ?_) (fun _ _ q => q) rfl rfl, ?_⟩
    · have q1 : lk (H.boxes ++ [(H.nx + 1, askX n o (.vec [] true) (.lit (.map none)) (.lit (.map none)))]) i = some c := q
      clear q
      rw [lk_app] at q1
      show lk (H.boxes ++ [(H.nx, _)] ++ [(H.nx + 1, _)]) i = some c
      rw [lk_app, lk_app]
      cases hc : lk H.boxes i with
      | some c' => rw [hc] at q1; simpa using q1
      | none =>
        rw [hc] at q1
        simp only [lk, Option.none_or] at q1 ⊢
        by_cases hi : H.nx + 1 = i
        · rw [if_neg (by omega)]
          rw [if_pos hi] at q1 ⊢
          exact q1
        · rw [if_neg hi] at q1; cases q1
    · exact ⟨fun _ => ⟨rfl, rfl⟩, fun q => (by cases q)⟩
theorem rows_spec (a b : List Nat) (f g : Bool) (ha : a.length ≤ 1000000000) (hb : b.length ≤ 1000000000) : KCall Try.prog 12 [.vec (a.map rowI) f, .vec (b.map rowI) g] (.lit (.bool (decide (a = b)))) := by
  obtain ⟨v, hv⟩ : ∃ v, (decide (a = b)) = v := ⟨_, rfl⟩
  rw [hv]
  refine KCall_of (SCall_introK Try.func12 rfl Try.ntmps12 (rs := [.tmp 4]) rfl (by simp) ?_)
  refine aw_of ?_
  by_cases hlen : a.length = b.length
  · simp -implicitDefEqProofs (disch := omega) only [Xzz, Yzy, Dzz, ↓reduceIte, reduceCtorEq, Nat.reduceLT, Nat.reduceEqDiff, Nat.reduceAdd, Nat.reduceLeDiff, Nat.reducePow, Nat.reduceMul, tyW, Azz]
    refine aw_measA (fun k : Nat => ⟨[(5, .lit (.int .i64 (k : Int))), (0, .vec (a.map rowI) f), (1, .vec (b.map rowI) g)], ⟨[], [], 0⟩, 26⟩) (fun k => k ≤ a.length ∧ decide (a.drop k = b.drop k) = v) (fun k => a.length - k) 0 (wk_lk (by simp [lk]) (fun _ _ q => q) (fun _ _ q => q) rfl rfl) ⟨Nat.zero_le _, by rw [List.drop_zero, List.drop_zero]; exact hv⟩ ?_
    rintro k ⟨hk, hkv⟩
    refine aw_of ?_
    rcases Nat.lt_or_ge k a.length with hl | hg
    · obtain ⟨x, hx⟩ : ∃ x, a.getD k default = x := ⟨_, rfl⟩
      obtain ⟨y, hy⟩ : ∃ y, b.getD k default = y := ⟨_, rfl⟩
      rw [drop_getD hl, drop_getD (l := b) (by omega), hx, hy] at hkv
      simp -implicitDefEqProofs (disch := omega) only [Xzz, Yzy, Dzz, ↓reduceIte, reduceCtorEq, Nat.reduceLT, Nat.reduceEqDiff, Nat.reduceAdd, Nat.reduceLeDiff, Nat.reducePow, Nat.reduceMul, tyW, Azz]
      refine aw_quietN (n := 26) rfl (by decide) mixed ?_
      by_cases hxy : x = y
      · subst hxy
        have e1 : (((x : Nat) : Int) == (x : Int)) = true := by simp
        simp -implicitDefEqProofs (disch := omega) only [Xzz, Yzy, Dzz, ↓reduceIte, reduceCtorEq, Nat.reduceLT, Nat.reduceEqDiff, Nat.reduceAdd, Nat.reduceLeDiff, Nat.reducePow, Nat.reduceMul, tyW, Azz, rowI, hx, hy, e1]
        refine ⟨k + 1, ⟨hl, by rw [← hkv]; simp⟩, by omega, wk_lk (by simp [lk]) (fun _ _ q => q) (fun _ _ q => q) rfl rfl⟩
      · have e1 : (((x : Nat) : Int) == (y : Int)) = false := by simp; omega
        have hv0 : false = v := by rw [← hkv]; simp [hxy]
        subst hv0
        simp -implicitDefEqProofs (disch := omega) only [Xzz, Yzy, Dzz, ↓reduceIte, reduceCtorEq, Nat.reduceLT, Nat.reduceEqDiff, Nat.reduceAdd, Nat.reduceLeDiff, Nat.reducePow, Nat.reduceMul, tyW, Azz, rowI, hx, hy, e1]
        exact kexpo (.lit _)
    · have hk2 : k = a.length := by omega
      subst hk2
      rw [List.drop_length, hlen, List.drop_length] at hkv
      have hkv : true = v := by rw [← hkv]; simp
      subst hkv
      simp -implicitDefEqProofs (disch := omega) only [Xzz, Yzy, Dzz, ↓reduceIte, reduceCtorEq, Nat.reduceLT, Nat.reduceEqDiff, Nat.reduceAdd, Nat.reduceLeDiff, Nat.reducePow, Nat.reduceMul, tyW, Azz]
      exact kexpo (.lit _)
  · have hv0 : false = v := by
      rw [← hv]; symm; apply decide_eq_false; intro q; exact hlen (by rw [q])
    subst hv0
    simp -implicitDefEqProofs (disch := omega) only [Xzz, Yzy, Dzz, ↓reduceIte, reduceCtorEq, Nat.reduceLT, Nat.reduceEqDiff, Nat.reduceAdd, Nat.reduceLeDiff, Nat.reducePow, Nat.reduceMul, tyW, Azz]
    exact kexpo (.lit _)
end Go.Proofs.Ytbbnfbnicacdoaa
end
section
namespace Go.Proofs.Ytbbnfbnicacdoaa
open Go Go.Ab
set_option linter.unusedSimpArgs false
set_option linter.unusedVariables false
set_option maxRecDepth 20000
set_option maxHeartbeats 4000000
def gr14K : List Sta → Nat → Nat
  | [], k => k
  | s :: l, k => if k ≤ 6000 then gr14K l (k + s.edges.length) else k
def gr14 (n : Nt) : Bool := decide (6000 < gr14K n.states (n.rules.length + n.states.length + n.types.length + n.channels.length + n.modes.length))
theorem gr14_spec (n : Nt) (ok : NtOk n) : KCall Try.prog 13 [.agg (encN n)] (.lit (.bool (gr14 n))) := by
  obtain ⟨v, hv⟩ : ∃ v, gr14 n = v := ⟨_, rfl⟩
  rw [hv]
  obtain ⟨k0, hk0⟩ : ∃ k0, n.rules.length + n.states.length + n.types.length + n.channels.length + n.modes.length = k0 := ⟨_, rfl⟩
  unfold gr14 at hv
  rw [hk0] at hv
  refine KCall_of (SCall_introK Try.func13 rfl Try.ntmps13 (rs := [.tmp 2]) rfl (by simp) ?_)
  refine aw_of ?_
  have b1 := ok.types
  have b2 := ok.channels
  have b3 := ok.modes
  have b4 := ok.rules
  have b5 := ok.states
  have hc1 : (n.rules.length : Int) + n.states.length + n.types.length + n.channels.length + n.modes.length = (k0 : Int) := by omega
  simp -implicitDefEqProofs (disch := omega) only [Xzz, Yzy, Dzz, ↓reduceIte, reduceCtorEq, Nat.reduceLT, Nat.reduceEqDiff, Nat.reduceAdd, Nat.reduceLeDiff, Nat.reducePow, Nat.reduceMul, tyW, Azz, encN, hc1]
  refine aw_measA (fun x : Nat × Nat => ⟨[(4, .lit (.int .i64 (x.1 : Int))), (3, .lit (.int .i64 (x.2 : Int))), (1, .ptr 0 0)], ⟨[(0, encN n)], [], 1⟩, 46⟩) (fun x => x.1 ≤ n.states.length ∧ decide (6000 < gr14K (n.states.drop x.1) x.2) = v ∧ x.2 ≤ 6000000000) (fun x => n.states.length - x.1) (0, k0) (wk_lk (by simp [lk]) (fun _ _ q => q) (fun _ _ q => q) rfl rfl) ⟨Nat.zero_le _, by rw [List.drop_zero]; exact hv, by show k0 ≤ _; omega⟩ ?_
  rintro ⟨i, k⟩ ⟨hi, hkv, hkb⟩
  simp only at hi hkv hkb ⊢
  refine aw_of ?_
  rcases Nat.lt_or_ge i n.states.length with hl | hg
  · obtain ⟨s, hs⟩ : ∃ s, n.states.getD i default = s := ⟨_, rfl⟩
    have he := (ok.edges _ (getD_mem hl)).1
    rw [hs] at he
    rw [drop_getD hl, hs] at hkv
    unfold gr14K at hkv
    by_cases h6 : k ≤ 6000
    · rw [if_pos h6] at hkv
      simp -implicitDefEqProofs (disch := omega) only [Xzz, Yzy, Dzz, ↓reduceIte, reduceCtorEq, Nat.reduceLT, Nat.reduceEqDiff, Nat.reduceAdd, Nat.reduceLeDiff, Nat.reducePow, Nat.reduceMul, tyW, Azz, encN, encSt, hs]
      refine ⟨(i + 1, k + s.edges.length), ⟨hl, hkv, by show k + _ ≤ _; omega⟩, by show n.states.length - (i + 1) < _; omega, wk_lk (by simp [lk]) (fun _ _ q => q) (fun _ _ q => q) rfl rfl⟩
    · rw [if_neg h6, decide_eq_true (by omega)] at hkv
      subst hkv
      simp -implicitDefEqProofs (disch := omega) only [Xzz, Yzy, Dzz, ↓reduceIte, reduceCtorEq, Nat.reduceLT, Nat.reduceEqDiff, Nat.reduceAdd, Nat.reduceLeDiff, Nat.reducePow, Nat.reduceMul, tyW, Azz, encN]
      exact kexpo (.lit _)
  · have hi2 : i = n.states.length := by omega
    subst hi2
    rw [List.drop_length] at hkv
    have hkv : decide (6000 < k) = v := hkv
    simp -implicitDefEqProofs (disch := omega) only [Xzz, Yzy, Dzz, ↓reduceIte, reduceCtorEq, Nat.reduceLT, Nat.reduceEqDiff, Nat.reduceAdd, Nat.reduceLeDiff, Nat.reducePow, Nat.reduceMul, tyW, Azz, encN]
    have e1 : (decide ((k : Int) > 6000)) = v := by rw [← hkv]; rw [Bool.eq_iff_iff]; simp only [decide_eq_true_eq]; omega
    rw [e1]
    exact kexpo (.lit _)
def tooMany (len : Nat) : Bool := decide (24 < len) && decide (len ≤ 601)
def greatV (n : Nt) (o : List Orc) (L : List It) : Bool := gr14 n || decide (600 < n.states.length) || decide (60 < n.types.length) || decide (60 < o.length) || tooMany L.length
theorem great_spec (n : Nt) (o : List Orc) (L : List It) (f g : Bool) (ok : NtOk n) (ho : o.length ≤ 1000000000) (hL : L.length ≤ 1000000000) : KCall Try.prog 5 [.agg (encN n), .vec (o.map encO) f, .vec (L.map encI) g] (.lit (.bool (greatV n o L))) := by
  obtain ⟨v, hv⟩ : ∃ v, greatV n o L = v := ⟨_, rfl⟩
  rw [hv]
  have h14 := gr14_spec n ok
  unfold encN at h14
  refine KCall_of (SCall_introK Try.func5 rfl Try.ntmps5 (rs := [.tmp 6]) rfl (by simp) ?_)
  refine aw_of ?_
  have b1 := ok.types
  have b5 := ok.states
  unfold greatV tooMany at hv
  simp -implicitDefEqProofs (disch := omega) only [Xzz, Yzy, Dzz, ↓reduceIte, reduceCtorEq, Nat.reduceLT, Nat.reduceEqDiff, Nat.reduceAdd, Nat.reduceLeDiff, Nat.reducePow, Nat.reduceMul, tyW, Azz, encN]
  refine CallK_k call13 h14 (allc (.of_pure (.agg (pure_encN n))) alln) (.lit _) ?_
  have fin : v = v → ∀ h, KExpo h (.lit (.bool v)) (.lit (.bool v)) := fun _ h => kexpo (.lit _)
  cases hg : gr14 n with
  | true =>
    rw [hg] at hv; simp only [Bool.true_or] at hv; subst hv
    simp -implicitDefEqProofs (disch := omega) only [Xzz, Yzy, Dzz, ↓reduceIte, reduceCtorEq, Nat.reduceLT, Nat.reduceEqDiff, Nat.reduceAdd, Nat.reduceLeDiff, Nat.reducePow, Nat.reduceMul, tyW, Azz]
    exact kexpo (.lit _)
  | false =>
    rw [hg] at hv; simp only [Bool.false_or] at hv
    by_cases h1 : 600 < n.states.length
    · rw [decide_eq_true h1] at hv; simp only [Bool.true_or] at hv; subst hv
      simp -implicitDefEqProofs (disch := omega) only [Xzz, Yzy, Dzz, ↓reduceIte, reduceCtorEq, Nat.reduceLT, Nat.reduceEqDiff, Nat.reduceAdd, Nat.reduceLeDiff, Nat.reducePow, Nat.reduceMul, tyW, Azz]
      exact kexpo (.lit _)
    · rw [decide_eq_false h1] at hv; simp only [Bool.false_or] at hv
      by_cases h2 : 60 < n.types.length
      · rw [decide_eq_true h2] at hv; simp only [Bool.true_or] at hv; subst hv
        simp -implicitDefEqProofs (disch := omega) only [Xzz, Yzy, Dzz, ↓reduceIte, reduceCtorEq, Nat.reduceLT, Nat.reduceEqDiff, Nat.reduceAdd, Nat.reduceLeDiff, Nat.reducePow, Nat.reduceMul, tyW, Azz]
        exact kexpo (.lit _)
      · rw [decide_eq_false h2] at hv; simp only [Bool.false_or] at hv
        by_cases h3 : 60 < o.length
        · rw [decide_eq_true h3] at hv; simp only [Bool.true_or] at hv; subst hv
          simp -implicitDefEqProofs (disch := omega) only [Xzz, Yzy, Dzz, ↓reduceIte, reduceCtorEq, Nat.reduceLT, Nat.reduceEqDiff, Nat.reduceAdd, Nat.reduceLeDiff, Nat.reducePow, Nat.reduceMul, tyW, Azz]
          exact kexpo (.lit _)
        · rw [decide_eq_false h3] at hv; simp only [Bool.false_or] at hv
          by_cases h4 : 24 < L.length
          · rw [decide_eq_true h4] at hv; simp only [Bool.true_and] at hv
            by_cases h5 : L.length ≤ 601
            · rw [decide_eq_true h5] at hv; subst hv
              simp -implicitDefEqProofs (disch := omega) only [Xzz, Yzy, Dzz, ↓reduceIte, reduceCtorEq, Nat.reduceLT, Nat.reduceEqDiff, Nat.reduceAdd, Nat.reduceLeDiff, Nat.reducePow, Nat.reduceMul, tyW, Azz]
              exact kexpo (.lit _)
            · rw [decide_eq_false h5] at hv; subst hv
              simp -implicitDefEqProofs (disch := omega) only [Xzz, Yzy, Dzz, ↓reduceIte, reduceCtorEq, Nat.reduceLT, Nat.reduceEqDiff, Nat.reduceAdd, Nat.reduceLeDiff, Nat.reducePow, Nat.reduceMul, tyW, Azz]
              exact kexpo (.lit _)
          · rw [decide_eq_false h4] at hv; simp only [Bool.false_and] at hv; subst hv
            simp -implicitDefEqProofs (disch := omega) only [Xzz, Yzy, Dzz, ↓reduceIte, reduceCtorEq, Nat.reduceLT, Nat.reduceEqDiff, Nat.reduceAdd, Nat.reduceLeDiff, Nat.reducePow, Nat.reduceMul, tyW, Azz]
            exact kexpo (.lit _)
theorem greatV_items {n : Nt} {o : List Orc} {L : List It} (h : greatV n o L = false) : L.length ≤ 24 ∨ 601 < L.length := by
  unfold greatV tooMany at h
  simp only [Bool.or_eq_false_iff, Bool.and_eq_false_iff, decide_eq_false_iff_not] at h
  omega
def plainE (es : List Ed) : Bool := es.all fun e => decide (e.op.1 ≠ 3)
def plainS (l : List Sta) : Bool := l.all fun s => plainE s.edges
theorem plain_spec (n : Nt) (ok : NtOk n) : KCall Try.prog 6 [.agg (encN n)] (.lit (.bool (plainS n.states))) := by
  obtain ⟨v, hv⟩ : ∃ v, plainS n.states = v := ⟨_, rfl⟩
  rw [hv]
  refine KCall_of (SCall_introK Try.func6 rfl Try.ntmps6 (rs := [.tmp 2]) rfl (by simp) ?_)
  refine aw_of ?_
  have b5 := ok.states
  simp -implicitDefEqProofs (disch := omega) only [Xzz, Yzy, Dzz, ↓reduceIte, reduceCtorEq, Nat.reduceLT, Nat.reduceEqDiff, Nat.reduceAdd, Nat.reduceLeDiff, Nat.reducePow, Nat.reduceMul, tyW, Azz, encN]
  refine aw_measA (fun i : Nat => ⟨[(3, .lit (.int .i64 (i : Int))), (1, .ptr 0 0)], ⟨[(0, encN n)], [], 1⟩, 34⟩) (fun i => i ≤ n.states.length ∧ plainS (n.states.drop i) = v) (fun i => n.states.length - i) 0 (wk_lk (by simp [lk]) (fun _ _ q => q) (fun _ _ q => q) rfl rfl) ⟨Nat.zero_le _, by rw [List.drop_zero]; exact hv⟩ ?_
  rintro i ⟨hi, hiv⟩
  refine aw_of ?_
  rcases Nat.lt_or_ge i n.states.length with hl | hg
  · obtain ⟨s, hs⟩ : ∃ s, n.states.getD i default = s := ⟨_, rfl⟩
    have he := (ok.edges _ (getD_mem hl)).1
    rw [hs] at he
    rw [drop_getD hl, hs] at hiv
    unfold plainS at hiv
    rw [List.all_cons] at hiv
    have hiv2 : (plainE s.edges && plainS (n.states.drop (i + 1))) = v := hiv
    simp -implicitDefEqProofs (disch := omega) only [Xzz, Yzy, Dzz, ↓reduceIte, reduceCtorEq, Nat.reduceLT, Nat.reduceEqDiff, Nat.reduceAdd, Nat.reduceLeDiff, Nat.reducePow, Nat.reduceMul, tyW, Azz, encN]
    refine aw_measA (fun j : Nat => ⟨[(4, .lit (.int .i64 (j : Int))), (3, .lit (.int .i64 (i : Int))), (1, .ptr 0 0)], ⟨[(0, encN n)], [], 1⟩, 34⟩) (fun j => j ≤ s.edges.length ∧ (plainE (s.edges.drop j) && plainS (n.states.drop (i + 1))) = v) (fun j => s.edges.length - j) 0 (wk_lk (by simp [lk]) (fun _ _ q => q) (fun _ _ q => q) rfl rfl) ⟨Nat.zero_le _, by rw [List.drop_zero]; exact hiv2⟩ ?_
    rintro j ⟨hj, hjv⟩
    refine aw_of ?_
    rcases Nat.lt_or_ge j s.edges.length with hlj | hgj
    · obtain ⟨e, hee⟩ : ∃ e, s.edges.getD j default = e := ⟨_, rfl⟩
      rw [drop_getD hlj, hee] at hjv
      unfold plainE at hjv
      rw [List.all_cons] at hjv
      by_cases h3 : e.op.1 = 3
      · have hv0 : false = v := by rw [← hjv]; simp [h3]
        subst hv0
        have e1 : (e.op.1 == 3) = true := by simpa using h3
        simp -implicitDefEqProofs (disch := omega) only [Xzz, Yzy, Dzz, ↓reduceIte, reduceCtorEq, Nat.reduceLT, Nat.reduceEqDiff, Nat.reduceAdd, Nat.reduceLeDiff, Nat.reducePow, Nat.reduceMul, tyW, Azz, encN, encSt, hs, hee, encE, e1]
        exact kexpo (.lit _)
      · have hv1 : (plainE (s.edges.drop (j + 1)) && plainS (n.states.drop (i + 1))) = v := by rw [← hjv]; simp [h3, plainE]
        have e1 : (e.op.1 == 3) = false := by simpa using h3
        simp -implicitDefEqProofs (disch := omega) only [Xzz, Yzy, Dzz, ↓reduceIte, reduceCtorEq, Nat.reduceLT, Nat.reduceEqDiff, Nat.reduceAdd, Nat.reduceLeDiff, Nat.reducePow, Nat.reduceMul, tyW, Azz, encN, encSt, hs, hee, encE, e1]
        exact ⟨j + 1, ⟨hlj, hv1⟩, by omega, wk_lk (by simp [lk]) (fun _ _ q => q) (fun _ _ q => q) rfl rfl⟩
    · have hj2 : j = s.edges.length := by omega
      subst hj2
      rw [List.drop_length] at hjv
      have hjv : plainS (n.states.drop (i + 1)) = v := by rw [← hjv]; simp [plainE]
      simp -implicitDefEqProofs (disch := omega) only [Xzz, Yzy, Dzz, ↓reduceIte, reduceCtorEq, Nat.reduceLT, Nat.reduceEqDiff, Nat.reduceAdd, Nat.reduceLeDiff, Nat.reducePow, Nat.reduceMul, tyW, Azz, encN, encSt, hs]
      exact ⟨i + 1, ⟨hl, hjv⟩, by omega, wk_lk (by simp [lk]) (fun _ _ q => q) (fun _ _ q => q) rfl rfl⟩
  · have hi2 : i = n.states.length := by omega
    subst hi2
    rw [List.drop_length] at hiv
    have hiv : true = v := hiv
    subst hiv
    simp -implicitDefEqProofs (disch := omega) only [Xzz, Yzy, Dzz, ↓reduceIte, reduceCtorEq, Nat.reduceLT, Nat.reduceEqDiff, Nat.reduceAdd, Nat.reduceLeDiff, Nat.reducePow, Nat.reduceMul, tyW, Azz, encN]
    exact kexpo (.lit _)
end Go.Proofs.Ytbbnfbnicacdoaa
end
section
namespace Go.Proofs.Ytbbnfbnicacdoaa
open Go Go.Ab
set_option linter.unusedSimpArgs false
set_option linter.unusedVariables false
set_option maxRecDepth 20000
set_option maxHeartbeats 4000000
def stepsB (n : Nt) (o : List Orc) (L : List It) (lv : Int) (x : Sp) : List Sp := (n.states.getD x.1 default).edges.filterMap fun e => if (goV o L e lv x.2).2 then some (e.to.toNat, x.2 + (goV o L e lv x.2).1) else none
def bfsB (n : Nt) (o : List Orc) (L : List It) (c : Cl) : Nat → List Sp
  | 0 => [(stN n c.rule, c.pos)]
  | k + 1 => bfsB n o L c k ++ ((bfsB n o L c k).flatMap (stepsB n o L c.level)).filter fun x => !(bfsB n o L c k).contains x
def noCallB (n : Nt) : Bool := n.states.all fun s => s.edges.all fun e => decide (e.op.1 ≠ 2)
def closedB (n : Nt) (o : List Orc) (L : List It) (c : Cl) (S : List Sp) : Bool := S.all fun x => (stepsB n o L c.level x).all fun y => S.contains y
theorem noCall_edge {n : Nt} (h : noCallB n = true) {s : Nat} {e : Ed} (he : e ∈ (n.states.getD s default).edges) : e.op.1 ≠ 2 := by
  rcases Nat.lt_or_ge s n.states.length with hs | hs
  · have h1 := List.all_eq_true.1 h _ (getD_mem hs)
    have h2 := List.all_eq_true.1 h1 e he
    exact of_decide_eq_true h2
  · have : n.states.getD s default = default := by rw [List.getD_eq_getElem?_getD, List.getElem?_eq_none hs]; rfl
    rw [this] at he; cases he
theorem bfs_sound {n : Nt} {o : List Orc} {L : List It} {c : Cl} : ∀ {k : Nat} {x : Sp}, x ∈ bfsB n o L c k → Rs n o L c x.1 x.2
  | 0, x, h => by simp only [bfsB, List.mem_singleton] at h; subst h; exact .start
  | k + 1, x, h => by
    simp only [bfsB, List.mem_append, List.mem_filter, List.mem_flatMap] at h
    rcases h with h | ⟨⟨y, hy, h⟩, _⟩
    · exact bfs_sound h
    · simp only [stepsB, List.mem_filterMap] at h
      obtain ⟨e, he, h⟩ := h
      split at h
      · rename_i hg
        cases h
        exact .edge (bfs_sound hy) he hg
      · cases h
theorem bfs_all {n : Nt} {o : List Orc} {L : List It} {c : Cl} {k : Nat} (hn : noCallB n = true) (hc : closedB n o L c (bfsB n o L c k) = true) {s p : Nat} (h : Rs n o L c s p) : (s, p) ∈ bfsB n o L c k := by
  have hst : (stN n c.rule, c.pos) ∈ bfsB n o L c k := by
    clear hc
    induction k with
    | zero => simp [bfsB]
    | succ k ih => simp only [bfsB, List.mem_append]; exact .inl ih
  have key : ∀ (c' : Cl) (s p : Nat), Rs n o L c' s p → c' = c → (s, p) ∈ bfsB n o L c k := by
    intro c' s p r
    induction r with
    | start => intro q; subst q; exact hst
    | @edge c' s p e _ h2 h3 ih =>
      intro q; subst q
      have h4 := List.all_eq_true.1 hc _ (ih rfl)
      have h5 := List.all_eq_true.1 h4 (e.to.toNat, p + (goV o L e c'.level p).1) (by
        simp only [stepsB, List.mem_filterMap]
        exact ⟨e, h2, by rw [if_pos h3]⟩)
      simpa using h5
    | @call c' s p k' e _ h2 h3 h4 ih _ => exact absurd h3 (noCall_edge hn h2)
  exact key c s p h rfl
theorem wh_bfs {n : Nt} {o : List Orc} {L : List It} {c : Cl} (k : Nat) (hn : noCallB n = true) (hc : closedB n o L c (bfsB n o L c k) = true) {i : Nat} (hi : i ≤ L.length) : (whW n o L c).testBit i = (bfsB n o L c k).contains (spN n c.rule, i) := by
  rw [Bool.eq_iff_iff, whW_bit, List.contains_iff_mem]
  exact ⟨fun h => bfs_all hn hc h.2, fun h => ⟨hi, bfs_sound h⟩⟩
theorem op_bfs {n : Nt} {o : List Orc} {L : List It} {c : Cl} (k : Nat) (hn : noCallB n = true) (hc : closedB n o L c (bfsB n o L c k) = true) : opB n o L c = (bfsB n o L c k).any fun x => x.2 == L.length := by
  rw [Bool.eq_iff_iff, opB_true, List.any_eq_true]
  constructor
  · intro h
    cases h with
    | @here _ s h => exact ⟨(s, L.length), bfs_all hn hc h, by simp⟩
    | call _ h2 h3 _ => exact absurd h3 (noCall_edge hn h2)
  · rintro ⟨x, hx, q⟩
    have q : x.2 = L.length := by simpa using q
    exact .here (s := x.1) (by rw [← q]; exact bfs_sound hx)
def i8 (z : Int) (h : -128 ≤ z ∧ z ≤ 127 := by decide) : I8 := ⟨z, h⟩
def eSm (op : I8) (set : List (Int × Int)) (n to : Int) : Ed := ⟨op, set, n, 0, default, [], to⟩
def smallN : Nt := ⟨[⟨#[66]⟩, ⟨#[67]⟩, ⟨#[68]⟩], [⟨#[]⟩], [⟨#[]⟩], [⟨⟨#[97]⟩, false, false, false, false, 0, 0, 0, 1⟩],
  [⟨0, [eSm (i8 4) [] 1 2]⟩, ⟨0, []⟩, ⟨0, [eSm (i8 1) [(1, 1)] 0 3]⟩, ⟨0, [eSm (i8 0) [] 0 4, eSm (i8 0) [] 0 5]⟩, ⟨0, [eSm (i8 1) [(2, 2)] 0 3]⟩, ⟨0, [eSm (i8 1) [(3, 3)] 0 6]⟩, ⟨0, [eSm (i8 0) [] 0 1]⟩]⟩
theorem mem_con {a : Nat} {l : List Nat} (h : l.contains a = true) : a ∈ l := by simpa using h
theorem small_no : noCallB smallN = true := by kernel_rfl
theorem small_heads : headsV smallN = true := by kernel_rfl
theorem small_rules : rulesV smallN = true := by kernel_rfl
theorem small_states : statesV smallN = true := by kernel_rfl
theorem small_ends : endsV smallN = true := by
  unfold endsV
  refine @decide_eq_true _ (Classical.propDecidable _) fun s hs => ⟨0, by decide, ?_⟩
  have hs : s < 7 := hs
  have h6 : Rch (gB smallN) (spN smallN 0) 6 := .one (mem_con (by kernel_rfl))
  have h5 : Rch (gB smallN) (spN smallN 0) 5 := .step h6 (mem_con (by kernel_rfl))
  have h3 : Rch (gB smallN) (spN smallN 0) 3 := .step h5 (mem_con (by kernel_rfl))
  have h2 : Rch (gB smallN) (spN smallN 0) 2 := .step h3 (mem_con (by kernel_rfl))
  have h4 : Rch (gB smallN) (spN smallN 0) 4 := .step h3 (mem_con (by kernel_rfl))
  have h0 : Rch (gB smallN) (spN smallN 0) 0 := .step h2 (mem_con (by kernel_rfl))
  match s, hs with
  | 0, _ => exact .inr h0
  | 1, _ => exact .inl (by kernel_rfl)
  | 2, _ => exact .inr h2
  | 3, _ => exact .inr h3
  | 4, _ => exact .inr h4
  | 5, _ => exact .inr h5
  | 6, _ => exact .inr h6
theorem rank_small {G : List (List Nat)} (rk : Nat → Nat) (h : ((List.range G.length).all fun i => (G.getD i []).all fun j => decide (rk j < rk i)) = true) : Acyc G := by
  refine ⟨rk, fun i j hj => ?_⟩
  rcases Nat.lt_or_ge i G.length with hi | hi
  · exact of_decide_eq_true (List.all_eq_true.1 (List.all_eq_true.1 h i (List.mem_range.2 hi)) j hj)
  · rw [List.getD_eq_getElem?_getD, List.getElem?_eq_none hi] at hj; cases hj
theorem small_ok : okV smallN = true := by
  unfold okV
  rw [small_heads, small_rules, small_states, small_ends]
  have h1 : ((List.range smallN.rules.length).all (lexR smallN)) = true := by kernel_rfl
  have g1 : gF smallN = [[2], [], [], [4, 5], [], [], [1]] := by kernel_rfl
  have h2 : ringV (gF smallN) = false := by
    rw [g1]; exact ringV_false (rank_small (fun i => if i = 0 then 3 else if i = 3 then 3 else if i = 6 then 3 else 1) (by decide))
  have g2 : gC smallN = [[]] := by kernel_rfl
  have h3 : ringV (gC smallN) = false := by rw [g2]; exact ringV_false (rank_small (fun _ => 0) (by decide))
  rw [h1, h2, h3]; rfl
theorem gd0 : GdOk (default : Gd) := .mk (by decide) (by intro k hk; cases hk)
theorem eSm_ok {op : I8} {set : List (Int × Int)} {n to : Int} (hl : set.length ≤ 5) (hs : SetOk set) : EdOk (eSm op set n to) := ⟨by show set.length ≤ _; omega, by show 0 ≤ _; omega, by show gsz (default : Gd) ≤ _; decide, gd0, hs⟩
theorem small_nt : NtOk smallN := by
  refine ⟨by decide, by decide, by decide, by decide, by decide, by decide, by decide, by decide, ?_, ?_⟩
  · intro r hr
    simp only [smallN, List.mem_singleton] at hr; subst hr; decide
  · intro s hs
    simp only [smallN, List.mem_cons, List.not_mem_nil, or_false] at hs
    have s0 : SetOk [] := fun r hr => by cases hr
    have s1 : ∀ a : Int, -2147483648 ≤ a ∧ a ≤ 2147483647 → SetOk [(a, a)] := fun a ha r hr => by
      simp only [List.mem_singleton] at hr; subst hr; exact ⟨ha, ha⟩
    rcases hs with rfl | rfl | rfl | rfl | rfl | rfl | rfl
    · refine ⟨by decide, fun e he => ?_⟩
      simp only [List.mem_singleton] at he; subst he; exact eSm_ok (by decide) s0
    · exact ⟨by decide, fun e he => by cases he⟩
    · refine ⟨by decide, fun e he => ?_⟩
      simp only [List.mem_singleton] at he; subst he; exact eSm_ok (by decide) (s1 1 (by decide))
    · refine ⟨by decide, fun e he => ?_⟩
      simp only [List.mem_cons, List.not_mem_nil, or_false] at he
      rcases he with rfl | rfl <;> exact eSm_ok (by decide) s0
    · refine ⟨by decide, fun e he => ?_⟩
      simp only [List.mem_singleton] at he; subst he; exact eSm_ok (by decide) (s1 2 (by decide))
    · refine ⟨by decide, fun e he => ?_⟩
      simp only [List.mem_singleton] at he; subst he; exact eSm_ok (by decide) (s1 3 (by decide))
    · refine ⟨by decide, fun e he => ?_⟩
      simp only [List.mem_singleton] at he; subst he; exact eSm_ok (by decide) s0
theorem small_net : NetOk smallN [] := ⟨(okV_wf small_ok).1, small_nt, rank_ex small_nt small_ok, by decide⟩
def rowK : List Nat → Nat → List It
  | [], _ => []
  | t :: l, k => ⟨(t : Int), (k : Int), (k : Int), false, (k : Int)⟩ :: rowK l (k + 1)
def rowV (eof : Bool) (ts : List Nat) : List It := rowK ts 0 ++ (if eof then [⟨0, (ts.length : Int), (ts.length : Int), false, (ts.length : Int)⟩] else [])
def c0 : Cl := ⟨0, 0, 0⟩
def bS (L : List It) : List Sp := bfsB smallN [] L c0 9
def okS (L : List It) : Bool := closedB smallN [] L c0 (bS L)
def viaC (L : List It) : Bool :=
  if 0 < L.length then
    if anyLe0 (L.take (L.length - 1)) then false
    else if (L.getD (L.length - 1) default).type = 0 then (bS L).contains (1, L.length - 1) else (bS L).any fun x => x.2 == L.length
  else (bS L).any fun x => x.2 == L.length
theorem via_C {L : List It} (h : okS L = true) : viaV smallN [] 0 L = viaC L := by
  unfold viaV viaC
  have h1 : opB smallN [] L c0 = (bS L).any fun x => x.2 == L.length := op_bfs 9 small_no h
  have h2 : ∀ i, i ≤ L.length → (whW smallN [] L c0).testBit i = (bS L).contains (1, i) := fun i hi => wh_bfs 9 small_no h hi
  unfold c0 at h1 h2
  rw [h1, h2 _ (Nat.sub_le _ _)]
theorem small_f2 : endsL smallN [] 0 0 0 (rowV false [1, 2, 2, 3]) = [4] := by
  have hc : okS (rowV false [1, 2, 2, 3]) = true := by kernel_rfl
  unfold endsL plcs
  have hr : ∀ i ∈ List.range ((rowV false [1, 2, 2, 3]).length + 1), (whW smallN [] (rowV false [1, 2, 2, 3]) ⟨0, 0, 0⟩).testBit i = (bS (rowV false [1, 2, 2, 3])).contains (1, i) := fun i hi =>
    wh_bfs 9 small_no hc (by have := List.mem_range.1 hi; omega)
  rw [List.filter_congr hr]
  show _ = _
  kernel_rfl
theorem small_f3 : viaN smallN [] 0 (rowV false [1, 2, 1]) 3 = 2 := by
  have h3 : viaV smallN [] 0 ((rowV false [1, 2, 1]).take 3) = false := by rw [via_C (by kernel_rfl)]; kernel_rfl
  have h2 : viaV smallN [] 0 ((rowV false [1, 2, 1]).take 2) = true := by rw [via_C (by kernel_rfl)]; kernel_rfl
  rw [viaN, h3, viaN, h2]; rfl
theorem small_f4 : nextL smallN [] 0 (rowV false [1]) 1 1 4 = [2, 3] := by
  unfold nextL
  have hr : ∀ t ∈ List.range 4, viaV smallN [] 0 (rowV false [1] ++ [itN t 1 1]) = viaC (rowV false [1] ++ [itN t 1 1]) := fun t ht => by
    have ht : t < 4 := List.mem_range.1 ht
    refine via_C ?_
    match t, ht with
    | 0, _ => show okS _ = true; kernel_rfl
    | 1, _ => show okS _ = true; kernel_rfl
    | 2, _ => show okS _ = true; kernel_rfl
    | 3, _ => show okS _ = true; kernel_rfl
  rw [List.filter_congr hr]
  show _ = _
  kernel_rfl
theorem small_f5 : viaV smallN [] 0 (rowV true [1, 3]) = true := by rw [via_C (by kernel_rfl)]; kernel_rfl
theorem small_f6 : viaV smallN [] 0 (rowV true [1]) = false := by rw [via_C (by kernel_rfl)]; kernel_rfl
end Go.Proofs.Ytbbnfbnicacdoaa
end
section
namespace Go.Proofs.Ytbbnfbnicacdoaa
open Go Go.Ab
set_option linter.unusedSimpArgs false
set_option linter.unusedVariables false
set_option maxRecDepth 20000
set_option maxHeartbeats 4000000
def wideF : Nat → AV → AV
  | 0, a => a
  | k + 1, .agg cs => .agg (cs.map (wideF k))
  | k + 1, .vec xs _ => .vec (xs.map fun x => x.map (wideF k)) false
  | _ + 1, a => a
theorem cvL_map {g : Gh} {f : AV → AV} (h : ∀ a, Cv g g a (f a)) : ∀ cs : List AV, CvL g g cs (cs.map f)
  | [] => cvL_nil
  | a :: cs => cvL_cons (h a) (cvL_map h cs)
theorem cvR_map {g : Gh} {f : AV → AV} (h : ∀ a, Cv g g a (f a)) : ∀ xs : List (List AV), CvR g g xs (xs.map fun x => x.map f)
  | [] => .nil
  | x :: xs => .cons (cvL_map h x) (by simp) (cvR_map h xs)
theorem cv_wide (g : Gh) : ∀ (k : Nat) (a : AV), Cv g g a (wideF k a)
  | 0, a => cv_refl (.refl g) a
  | k + 1, a => by
    cases a with
    | agg cs => exact cv_agg (cvL_map (cv_wide g k) cs)
    | vec xs f => exact fun v hv => cv_full (.refl g) _ f v (cv_vec (.refl g) (cvR_map (cv_wide g k) xs) v hv)
    | _ => exact cv_refl (.refl g) _
theorem kexpo_wide (k : Nat) {h : Hp} {r r' : AV} (e : wideF k r = r') (hr : GP r') : KExpo h r r' := by
  refine KExpo.wk (h' := ⟨[], [], h.nx⟩) (r' := r') (St.wk_conv rfl rfl (fun g g' x => allc ⟨r, rfl, ?_⟩ alln) (fun g g' x => alln) (fun g => alln)) (kexpo hr)
  subst e
  exact fun v hv => cv_refl x _ v (cv_wide g k r v hv)
theorem set_spec' (t to : Int) : KCall Try.prog 25 [.lit (.int .i32 t), .lit (.int .i64 to)] (.agg (encSt ⟨0, [eSm (i8 1) [(t, t)] 0 to]⟩)) := by
  refine KCall_of (SCall_introK Try.func25 rfl Try.ntmps25 (rs := [.cell 4 51]) rfl (by simp) ?_)
  refine aw_of ?_
  simp -implicitDefEqProofs (disch := omega) only [Xzz, Yzy, Dzz, ↓reduceIte, reduceCtorEq, Nat.reduceLT, Nat.reduceEqDiff, Nat.reduceAdd, Nat.reduceLeDiff, Nat.reducePow, Nat.reduceMul, tyW, Azz]
  exact kexpo_wide 8 rfl (.of_pure (.agg (pure_encSt _)))
theorem Small_spec : KCall Try.prog 14 [] (.agg (encN smallN)) := by
  refine KCall_of (SCall_introK Try.func14 rfl Try.ntmps14 (rs := [.cell 0 26]) rfl (by simp) ?_)
  refine aw_of ?_
  have gs : ∀ s : Sta, GP (.agg (encSt s)) := fun s => .of_pure (.agg (pure_encSt s))
  simp -implicitDefEqProofs (disch := omega) only [Xzz, Yzy, Dzz, ↓reduceIte, reduceCtorEq, Nat.reduceLT, Nat.reduceEqDiff, Nat.reduceAdd, Nat.reduceLeDiff, Nat.reducePow, Nat.reduceMul, tyW, Azz]
  refine CallK_k call25 (set_spec' 1 3) (allc (.lit _) (allc (.lit _) alln)) (gs _) ?_
  simp -implicitDefEqProofs (disch := omega) only [Xzz, Yzy, Dzz, ↓reduceIte, reduceCtorEq, Nat.reduceLT, Nat.reduceEqDiff, Nat.reduceAdd, Nat.reduceLeDiff, Nat.reducePow, Nat.reduceMul, tyW, Azz]
  refine CallK_k call25 (set_spec' 2 3) (allc (.lit _) (allc (.lit _) alln)) (gs _) ?_
  simp -implicitDefEqProofs (disch := omega) only [Xzz, Yzy, Dzz, ↓reduceIte, reduceCtorEq, Nat.reduceLT, Nat.reduceEqDiff, Nat.reduceAdd, Nat.reduceLeDiff, Nat.reducePow, Nat.reduceMul, tyW, Azz]
  refine CallK_k call25 (set_spec' 3 6) (allc (.lit _) (allc (.lit _) alln)) (gs _) ?_
  simp -implicitDefEqProofs (disch := omega) only [Xzz, Yzy, Dzz, ↓reduceIte, reduceCtorEq, Nat.reduceLT, Nat.reduceEqDiff, Nat.reduceAdd, Nat.reduceLeDiff, Nat.reducePow, Nat.reduceMul, tyW, Azz]
  exact kexpo_wide 8 rfl (.of_pure (.agg (pure_encN _)))
def gVI (t : Nat) : List It → AV
  | [] => .vec [] true
  | _ :: l => .own t (l.length + 1)
def tokI (t : Nat) : List It → List (Nat × Tk)
  | [] => []
  | x :: l => [(t, ⟨(x :: l).map encI, 0, 5⟩)]
def rowI' (ts : List Nat) (k : Nat) : It := ⟨((ts.getD k default : Nat) : Int), (k : Int), (k : Int), false, (k : Int)⟩
theorem rowK_len : ∀ (l : List Nat) (k : Nat), (rowK l k).length = l.length
  | [], k => rfl
  | t :: l, k => by simp [rowK, rowK_len l (k + 1)]
theorem rowK_get : ∀ (l : List Nat) (j i : Nat), i < l.length → (rowK l j)[i]? = some ⟨((l.getD i default : Nat) : Int), ((j + i : Nat) : Int), ((j + i : Nat) : Int), false, ((j + i : Nat) : Int)⟩
  | t :: l, j, 0, _ => by simp [rowK]
  | t :: l, j, i + 1, h => by
    have := rowK_get l (j + 1) i (by simpa using h)
    simp only [rowK, List.getElem?_cons_succ, this]
    rw [show j + 1 + i = j + (i + 1) by omega]; rfl
theorem rowK_take {ts : List Nat} {k : Nat} (h : k < ts.length) : (rowK ts 0).take (k + 1) = (rowK ts 0).take k ++ [rowI' ts k] := by
  rw [List.take_add_one, rowK_get ts 0 k h, Nat.zero_add]; rfl
theorem Row_spec (eof : Bool) (ts : List Nat) (f : Bool) (h : ts.length ≤ 1000000) : PCall Try.prog 15 [.lit (.bool eof), .vec (ts.map rowI) f] (.vec ((rowV eof ts).map encI) false) := by
  refine PCall_intro Try.func15 rfl Try.ntmps15 (rs := [.tmp 4]) rfl (by simp) ?_
  simp -implicitDefEqProofs (disch := omega) only [Xzz, Yzy, Dzz, ↓reduceIte, reduceCtorEq, Nat.reduceLT, Nat.reduceEqDiff, Nat.reduceAdd, Nat.reduceLeDiff, Nat.reducePow, Nat.reduceMul, tyW, Azz]
  refine aw_measA (fun x : Nat × Nat × Nat => ⟨[(6, .lit (.int .i64 (x.1 : Int))), (5, gVI x.2.1 ((rowK ts 0).take x.1)), (0, .lit (.bool eof)), (1, .vec (ts.map rowI) f)], ⟨[], tokI x.2.1 ((rowK ts 0).take x.1), x.2.2⟩, 36⟩) (fun x => x.1 ≤ ts.length) (fun x => ts.length - x.1) (0, 0, 0) (wk_lk (by simp [lk]; rfl) (fun _ _ q => q) (fun _ _ q => q) rfl rfl) (Nat.zero_le _) ?_
  rintro ⟨k, t, nx⟩ hk
  simp only at hk ⊢
  refine aw_of ?_
  have hlen : ((rowK ts 0).take k).length = k := by rw [List.length_take, rowK_len]; omega
  rcases Nat.lt_or_ge k ts.length with hl | hg
  · have htk := rowK_take hl
    obtain ⟨y, hy⟩ : ∃ y, ts.getD k default = y := ⟨_, rfl⟩
    have hit : encI (rowI' ts k) = [.lit (.int .i64 (y : Int)), .lit (.int .i64 (k : Int)), .lit (.int .i64 (k : Int)), .lit (.bool false), .lit (.int .i64 (k : Int))] := by unfold rowI' encI; rw [hy]
    obtain ⟨l, hl1⟩ : ∃ l, (rowK ts 0).take k = l := ⟨_, rfl⟩
    rw [hl1] at htk hlen ⊢
    cases l with
    | nil =>
      have hf1 : fits 1 40 := by decide
      have hg0 : gVI t [] = .vec [] true := rfl
      have ht0 : tokI t [] = [] := rfl
      simp -implicitDefEqProofs (disch := omega) only [Xzz, Yzy, Dzz, ↓reduceIte, reduceCtorEq, Nat.reduceLT, Nat.reduceEqDiff, Nat.reduceAdd, Nat.reduceLeDiff, Nat.reducePow, Nat.reduceMul, tyW, Azz, hg0, ht0, hy, rowI, List.mem_singleton, forall_eq, List.not_mem_nil, false_imp_iff, implies_true, hf1, if_true, List.length_cons, List.length_nil]
      refine ⟨(k + 1, nx, nx + 1), hl, by show ts.length - (k + 1) < _; omega, ?_⟩
      simp only
      rw [htk]
      refine wk_lk (by simp [lk, gVI]) (fun _ _ q => q) (fun i c q => ?_) rfl rfl
      have q1 : lk [(nx, (⟨[encI (rowI' ts k)], 0, 5⟩ : Tk))] i = some c := q
      rw [hit] at q1
      exact q1
    | cons a l' =>
      simp only [List.length_cons] at hlen
      have hf1 : fits (l'.length + 1 + 1) 40 := fits_of' (by omega) (by omega)
      have hgc : gVI t (a :: l') = .own t (l'.length + 1) := rfl
      have htc : tokI t (a :: l') = [(t, ⟨(a :: l').map encI, 0, 5⟩)] := rfl
      simp -implicitDefEqProofs (disch := omega) only [Xzz, Yzy, Dzz, ↓reduceIte, reduceCtorEq, Nat.reduceLT, Nat.reduceEqDiff, Nat.reduceAdd, Nat.reduceLeDiff, Nat.reducePow, Nat.reduceMul, tyW, Azz, hgc, htc, hy, rowI, List.mem_singleton, forall_eq, List.not_mem_nil, false_imp_iff, implies_true, hf1, if_true, List.length_cons, List.length_nil, List.length_map]
      refine ⟨(k + 1, t, nx), hl, by show ts.length - (k + 1) < _; omega, ?_⟩
      simp only
      rw [htk]
      refine wk_lk (by simp [lk, gVI]) (fun _ _ q => q) (fun i c q => ?_) rfl rfl
      have q1 : lk [(t, (⟨(a :: l' ++ [rowI' ts k]).map encI, 0, 5⟩ : Tk))] i = some c := q
      rw [show (a :: l' ++ [rowI' ts k]).map encI = (a :: l').map encI ++ [encI (rowI' ts k)] by simp, hit] at q1
      exact q1
  · have hk2 : k = ts.length := by omega
    have hall : (rowK ts 0).take k = rowK ts 0 := List.take_of_length_le (by rw [rowK_len]; omega)
    rw [hall] at hlen ⊢
    obtain ⟨l, hl1⟩ : ∃ l, rowK ts 0 = l := ⟨_, rfl⟩
    unfold rowV
    rw [hl1] at hlen ⊢
    cases eof with
    | false =>
      cases l with
      | nil =>
        have hg0 : gVI t [] = .vec [] true := rfl
        have ht0 : tokI t [] = [] := rfl
        simp -implicitDefEqProofs (disch := omega) only [Xzz, Yzy, Dzz, ↓reduceIte, reduceCtorEq, Nat.reduceLT, Nat.reduceEqDiff, Nat.reduceAdd, Nat.reduceLeDiff, Nat.reducePow, Nat.reduceMul, tyW, Azz, hg0, ht0]
        exact expo_full (by simp)
      | cons a l' =>
        have hgc : gVI t (a :: l') = .own t (l'.length + 1) := rfl
        have htc : tokI t (a :: l') = [(t, ⟨(a :: l').map encI, 0, 5⟩)] := rfl
        simp -implicitDefEqProofs (disch := omega) only [Xzz, Yzy, Dzz, ↓reduceIte, reduceCtorEq, Nat.reduceLT, Nat.reduceEqDiff, Nat.reduceAdd, Nat.reduceLeDiff, Nat.reducePow, Nat.reduceMul, tyW, Azz, hgc, htc]
        exact expo_own (k := ⟨(a :: l').map encI, 0, 5⟩) (by simp [lk]) (by simp) (pure_rows pure_encI _)
    | true =>
      cases l with
      | nil =>
        have hf1 : fits 1 40 := by decide
        have hg0 : gVI t [] = .vec [] true := rfl
        have ht0 : tokI t [] = [] := rfl
        simp -implicitDefEqProofs (disch := omega) only [Xzz, Yzy, Dzz, ↓reduceIte, reduceCtorEq, Nat.reduceLT, Nat.reduceEqDiff, Nat.reduceAdd, Nat.reduceLeDiff, Nat.reducePow, Nat.reduceMul, tyW, Azz, hg0, ht0, hf1, List.mem_singleton, forall_eq, List.not_mem_nil, false_imp_iff, implies_true, if_true, List.length_cons, List.length_nil]
        exact expo_own (k := ⟨([⟨0, (ts.length : Int), (ts.length : Int), false, (ts.length : Int)⟩] : List It).map encI, 0, 5⟩) (by simp [lk, encI]) (by simp) (pure_rows pure_encI _)
      | cons a l' =>
        simp only [List.length_cons] at hlen
        have hf1 : fits (l'.length + 1 + 1) 40 := fits_of' (by omega) (by omega)
        have hgc : gVI t (a :: l') = .own t (l'.length + 1) := rfl
        have htc : tokI t (a :: l') = [(t, ⟨(a :: l').map encI, 0, 5⟩)] := rfl
        simp -implicitDefEqProofs (disch := omega) only [Xzz, Yzy, Dzz, ↓reduceIte, reduceCtorEq, Nat.reduceLT, Nat.reduceEqDiff, Nat.reduceAdd, Nat.reduceLeDiff, Nat.reducePow, Nat.reduceMul, tyW, Azz, hgc, htc, hf1, List.mem_singleton, forall_eq, List.not_mem_nil, false_imp_iff, implies_true, if_true, List.length_cons, List.length_nil, List.length_map]
        refine expo_own (k := ⟨((a :: (l' ++ [⟨0, (ts.length : Int), (ts.length : Int), false, (ts.length : Int)⟩])) : List It).map encI, 0, 5⟩) ?_ ?_ ?_
        · simp [lk, encI]
        · simp
        · exact pure_rows pure_encI _
end Go.Proofs.Ytbbnfbnicacdoaa
end
section
namespace Go.Proofs.Ytbbnfbnicacdoaa
open Go Go.Ab
set_option linter.unusedSimpArgs false
set_option linter.unusedVariables false
set_option maxRecDepth 20000
set_option maxHeartbeats 4000000
theorem New_any (n : Nt) (o : List Orc) (f : Bool) (ok : NtOk n) (ho : o.length ≤ 1000000000) (H : Hp) (hf : ∀ i, H.nx ≤ i → lk H.boxes i = none) :
    SCall Try.prog 8 [.agg (encN n), .vec (o.map encO) f] H fun r h' =>
      (okV n = true → r = .tup [.ptr (H.nx + 1) 0, .lit (.int .i64 0)] ∧ h' = ⟨H.boxes ++ [(H.nx + 1, askX n o (.vec [] true) (.lit (.map none)) (.lit (.map none)))], H.toks, H.nx + 2⟩) ∧ (okV n = false → r = .tup [.lit (.pointer none), .lit (.int .i64 110)] ∧ h' = ⟨H.boxes, H.toks, H.nx + 1⟩) :=
  SCall.conv (fun g w r => ⟨g, .refl r, cvL_cons (cv_refl (.refl g) _) (cvL_cons (cv_full (.refl g) _ f) cvL_nil)⟩) (New_spec n o ok ho H hf)
theorem netOk_of {n : Nt} {o : List Orc} (ok : NtOk n) (ho : o.length ≤ 1000000000) (h : okV n = true) : NetOk n o := ⟨(okV_wf h).1, ok, rank_ex ok h, ho⟩
noncomputable def validV (n : Nt) (o : List Orc) (rule : Int) (L : List It) : Bool :=
  okV n && (decide (asksV n rule L.length = 0) && (decide (0 < L.length) && (decide ((L.getD (L.length - 1) default).type = 0) && viaV n o rule.toNat L)))
theorem Valid_spec (n : Nt) (o : List Orc) (f : Bool) (rule : Int) (L : List It) (ok : NtOk n) (ho : o.length ≤ 1000000000) (hL : L.length ≤ 25 ∨ 601 < L.length) (hL2 : L.length ≤ 1000000000) :
    KCall Try.prog 16 [.agg (encN n), .vec (o.map encO) f, .lit (.int .i64 rule), .vec (L.map encI) false] (.lit (.bool (validV n o rule L))) := by
  obtain ⟨v, hv⟩ : ∃ v, validV n o rule L = v := ⟨_, rfl⟩
  rw [hv]
  unfold validV at hv
  have hz := fun q => asksV_0 (n := n) (rule := rule) (k := L.length) q
  obtain ⟨e, he⟩ : ∃ e, asksV n rule L.length = e := ⟨_, rfl⟩
  obtain ⟨it, hit⟩ : ∃ it, L.getD (L.length - 1) default = it := ⟨_, rfl⟩
  rw [he] at hz hv
  rw [hit] at hv
  refine KCall_of (SCall_introK Try.func16 rfl Try.ntmps16 (rs := [.tmp 8]) rfl (by simp) ?_)
  refine aw_of ?_
  have hnew := New_any n o f ok ho ⟨[(0, encN n)], [], 1⟩ (fun i hi => lk_lt (N := 1) (by simp) hi)
  have hnew' := hnew
  unfold encN at hnew'
  simp -implicitDefEqProofs (disch := omega) only [Xzz, Yzy, Dzz, ↓reduceIte, reduceCtorEq, Nat.reduceLT, Nat.reduceEqDiff, Nat.reduceAdd, Nat.reduceLeDiff, Nat.reducePow, Nat.reduceMul, tyW, Azz, encN]
  refine CallK_of call8 hnew' ?_
  rintro r h' ⟨q1, q2⟩
  cases hok : okV n with
  | false =>
    obtain ⟨rfl, rfl⟩ := q2 hok
    have hv0 : false = v := by rw [← hv, hok]; rfl
    subst hv0
    simp -implicitDefEqProofs (disch := omega) only [Xzz, Yzy, Dzz, ↓reduceIte, reduceCtorEq, Nat.reduceLT, Nat.reduceEqDiff, Nat.reduceAdd, Nat.reduceLeDiff, Nat.reducePow, Nat.reduceMul, tyW, Azz]
    exact kexpo (.lit _)
  | true =>
    obtain ⟨rfl, rfl⟩ := q1 hok
    have N := netOk_of ok ho hok
    rw [hok, Bool.true_and] at hv
    have hA : AtA n o ⟨[(0, encN n)] ++ [(1 + 1, askX n o (.vec [] true) (.lit (.map none)) (.lit (.map none)))], [], 1 + 2⟩ (1 + 1) (.vec [] true) (.lit (.map none)) (.lit (.map none)) := ⟨rfl, fun i hi => lk_lt (N := 3) (by simp) hi, fun i _ => rfl, rfl⟩
    have hask := asks_spec n o _ _ _ rule L.length _ (1 + 1) (by have := ok.rules; omega) hA.bx
    rw [he] at hask
    simp -implicitDefEqProofs (disch := omega) only [Xzz, Yzy, Dzz, ↓reduceIte, reduceCtorEq, Nat.reduceLT, Nat.reduceEqDiff, Nat.reduceAdd, Nat.reduceLeDiff, Nat.reducePow, Nat.reduceMul, tyW, Azz]
    refine CallK_of call19 hask ?_
    rintro r h' ⟨rfl, hh⟩
    rw [hh]
    clear hh
    by_cases h0 : e = 0
    · obtain ⟨z1, z2, z3, z4⟩ := hz h0
      rw [decide_eq_true h0, Bool.true_and] at hv
      subst h0
      by_cases hl0 : 0 < L.length
      · rw [decide_eq_true hl0, Bool.true_and] at hv
        have hcast : (L.length : Int) - 1 = ((L.length - 1 : Nat) : Int) := by omega
        by_cases ht : it.type = 0
        · rw [decide_eq_true ht, Bool.true_and] at hv
          have h1' : (it.type == 0) = true := by simpa using ht
          obtain ⟨rn, hrn⟩ : ∃ rn, rule.toNat = rn := ⟨_, rfl⟩
          rw [hrn] at z2 z3 hv
          subst z3
          simp -implicitDefEqProofs (disch := omega) only [Xzz, Yzy, Dzz, ↓reduceIte, reduceCtorEq, Nat.reduceLT, Nat.reduceEqDiff, Nat.reduceAdd, Nat.reduceLeDiff, Nat.reducePow, Nat.reduceMul, tyW, Azz, hcast, encI, hit, h1']
          refine CallK_of call20 (viable_spec n o N rn z2 L (by omega) _ (1 + 1) _ _ _ hA) ?_
          rintro r h' ⟨rfl, x2, y2, z2, m2, hm2, rfl⟩
          simp -implicitDefEqProofs (disch := omega) only [Xzz, Yzy, Dzz, ↓reduceIte, reduceCtorEq, Nat.reduceLT, Nat.reduceEqDiff, Nat.reduceAdd, Nat.reduceLeDiff, Nat.reducePow, Nat.reduceMul, tyW, Azz]
          rw [hv]
          exact kexpo (.lit _)
        · rw [decide_eq_false ht, Bool.false_and] at hv
          subst hv
          have h1' : (it.type == 0) = false := by simpa using ht
          simp -implicitDefEqProofs (disch := omega) only [Xzz, Yzy, Dzz, ↓reduceIte, reduceCtorEq, Nat.reduceLT, Nat.reduceEqDiff, Nat.reduceAdd, Nat.reduceLeDiff, Nat.reducePow, Nat.reduceMul, tyW, Azz, hcast, encI, hit, h1']
          exact kexpo (.lit _)
      · rw [decide_eq_false hl0, Bool.false_and] at hv
        subst hv
        simp -implicitDefEqProofs (disch := omega) only [Xzz, Yzy, Dzz, ↓reduceIte, reduceCtorEq, Nat.reduceLT, Nat.reduceEqDiff, Nat.reduceAdd, Nat.reduceLeDiff, Nat.reducePow, Nat.reduceMul, tyW, Azz]
        exact kexpo (.lit _)
    · rw [decide_eq_false h0, Bool.false_and] at hv
      subst hv
      have hne0 : (e == 0) = false := by simpa using h0
      simp -implicitDefEqProofs (disch := omega) only [Xzz, Yzy, Dzz, ↓reduceIte, reduceCtorEq, Nat.reduceLT, Nat.reduceEqDiff, Nat.reduceAdd, Nat.reduceLeDiff, Nat.reducePow, Nat.reduceMul, tyW, Azz, hne0]
      exact kexpo (.lit _)
theorem gp_nil : GP (.vec [] true) := .of_pure (.vec (by simp))
theorem wakes_spec : KCall Try.prog 7 [] (.lit (.bool true)) := by
  have gN : GP (.agg (encN smallN)) := .of_pure (.agg (pure_encN _))
  have hnew := New_any smallN [] true small_nt (by decide) ⟨[], [], 0⟩ (fun i _ => rfl)
  have as0 : ∀ k, k ≤ 601 → asksV smallN 0 k = 0 := fun k hk => by
    have h1 : ¬ (601 < k) := by omega
    unfold asksV
    rw [if_neg (by decide), if_neg (by decide), if_neg (by decide), if_neg h1]
  have hlE : (if endsE smallN 0 0 0 (rowV false [1, 2, 2, 3]).length = 0 then endsL smallN [] (Int.toNat 0) 0 (Int.toNat 0) (rowV false [1, 2, 2, 3]) else []) = [4] := by
    rw [if_pos (by kernel_rfl)]; exact small_f2
  have heE : endsE smallN 0 0 0 (rowV false [1, 2, 2, 3]).length = 0 := by kernel_rfl
  have hE := fun H x y z => Ends_spec smallN [] small_net 0 0 0 (rowV false [1, 2, 2, 3]) (.inl (by decide)) (by decide) H 1 x y z
  rw [hlE, heE] at hE
  have hV := fun H x y z => Viable_spec smallN [] small_net 0 (rowV false [1, 2, 1]) (.inl (by decide)) (by decide) H 1 x y z
  have hlV : (if asksV smallN 0 (rowV false [1, 2, 1]).length = 0 then viaN smallN [] (Int.toNat 0) (rowV false [1, 2, 1]) (rowV false [1, 2, 1]).length else 0) = 2 := by
    rw [if_pos (as0 _ (by decide))]; exact small_f3
  rw [hlV, as0 _ (by decide)] at hV
  have hX := fun H x y z => Next_spec smallN [] small_net 0 1 1 (rowV false [1]) (.inl (by decide)) (by decide) H 1 x y z
  have hlX : (if asksV smallN 0 (rowV false [1]).length = 0 then nextL smallN [] (Int.toNat 0) (rowV false [1]) 1 1 (smallN.types.length + 1) else []) = [2, 3] := by
    rw [if_pos (as0 _ (by decide))]; exact small_f4
  rw [hlX, as0 _ (by decide)] at hX
  have hY := Valid_spec smallN [] true 0 (rowV true [1, 3]) small_nt (by decide) (.inl (by decide)) (by decide)
  have hvY : validV smallN [] 0 (rowV true [1, 3]) = true := by
    unfold validV
    rw [small_ok, decide_eq_true (as0 _ (by decide))]
    show (true && (true && (_ && (_ && viaV smallN [] 0 (rowV true [1, 3]))))) = true
    rw [small_f5]; kernel_rfl
  rw [hvY] at hY
  have hZ := Valid_spec smallN [] true 0 (rowV true [1]) small_nt (by decide) (.inl (by decide)) (by decide)
  have hvZ : validV smallN [] 0 (rowV true [1]) = false := by
    unfold validV
    rw [small_ok, decide_eq_true (as0 _ (by decide))]
    show (true && (true && (_ && (_ && viaV smallN [] 0 (rowV true [1]))))) = false
    rw [small_f6]; kernel_rfl
  rw [hvZ] at hZ
  refine KCall_of (SCall_introK Try.func7 rfl Try.ntmps7 (rs := [.tmp 0]) rfl (by simp) ?_)
  refine aw_of ?_
  simp -implicitDefEqProofs (disch := omega) only [Xzz, Yzy, Dzz, ↓reduceIte, reduceCtorEq, Nat.reduceLT, Nat.reduceEqDiff, Nat.reduceAdd, Nat.reduceLeDiff, Nat.reducePow, Nat.reduceMul, tyW, Azz]
  refine CallK_k call14 Small_spec alln gN ?_
  simp -implicitDefEqProofs (disch := omega) only [Xzz, Yzy, Dzz, ↓reduceIte, reduceCtorEq, Nat.reduceLT, Nat.reduceEqDiff, Nat.reduceAdd, Nat.reduceLeDiff, Nat.reducePow, Nat.reduceMul, tyW, Azz]
  refine CallK_of call8 hnew ?_
  rintro r h' ⟨q1, q2⟩
  obtain ⟨rfl, rfl⟩ := q1 small_ok
  clear q1 q2
  simp -implicitDefEqProofs (disch := omega) only [Xzz, Yzy, Dzz, ↓reduceIte, reduceCtorEq, Nat.reduceLT, Nat.reduceEqDiff, Nat.reduceAdd, Nat.reduceLeDiff, Nat.reducePow, Nat.reduceMul, tyW, Azz]
  have hAt : ∀ x y z m, 2 ≤ m → AtA smallN [] ⟨[(1, askX smallN [] x y z)], [], m⟩ 1 x y z := fun x y z m hm => ⟨rfl, fun i hi => lk_lt (N := 2) (by simp) (by have hi : m ≤ i := hi; omega), fun _ _ => rfl, rfl⟩
  refine CallK_pure call15 (Row_spec false [1, 2, 2, 3] true (by decide)) (allc (.lit _) (allc (.vec (pure_rows pure_rowI [1, 2, 2, 3])) alln)) (.vec (pure_rows pure_encI _)) ?_
  simp -implicitDefEqProofs (disch := omega) only [Xzz, Yzy, Dzz, ↓reduceIte, reduceCtorEq, Nat.reduceLT, Nat.reduceEqDiff, Nat.reduceAdd, Nat.reduceLeDiff, Nat.reducePow, Nat.reduceMul, tyW, Azz]
  refine CallK_of call11 (hE _ _ _ _ (hAt _ _ _ _ (by decide))) ?_
  rintro r h' ⟨⟨f1, rfl⟩, x1, y1, z1, m1, hm1, rfl⟩
  have hm1 : 2 ≤ m1 := hm1
  simp -implicitDefEqProofs (disch := omega) only [Xzz, Yzy, Dzz, ↓reduceIte, reduceCtorEq, Nat.reduceLT, Nat.reduceEqDiff, Nat.reduceAdd, Nat.reduceLeDiff, Nat.reducePow, Nat.reduceMul, tyW, Azz]
  refine CallK_pure call15 (Row_spec false [1, 2, 1] true (by decide)) (allc (.lit _) (allc (.vec (pure_rows pure_rowI [1, 2, 1])) alln)) (.vec (pure_rows pure_encI _)) ?_
  simp -implicitDefEqProofs (disch := omega) only [Xzz, Yzy, Dzz, ↓reduceIte, reduceCtorEq, Nat.reduceLT, Nat.reduceEqDiff, Nat.reduceAdd, Nat.reduceLeDiff, Nat.reducePow, Nat.reduceMul, tyW, Azz]
  refine CallK_of call9 (hV _ _ _ _ (hAt _ _ _ _ hm1)) ?_
  rintro r h' ⟨rfl, x2, y2, z2, m2, hm2, rfl⟩
  have hm2 : m1 ≤ m2 := hm2
  simp -implicitDefEqProofs (disch := omega) only [Xzz, Yzy, Dzz, ↓reduceIte, reduceCtorEq, Nat.reduceLT, Nat.reduceEqDiff, Nat.reduceAdd, Nat.reduceLeDiff, Nat.reducePow, Nat.reduceMul, tyW, Azz]
  refine CallK_pure call15 (Row_spec false [1] true (by decide)) (allc (.lit _) (allc (.vec (pure_rows pure_rowI [1])) alln)) (.vec (pure_rows pure_encI _)) ?_
  simp -implicitDefEqProofs (disch := omega) only [Xzz, Yzy, Dzz, ↓reduceIte, reduceCtorEq, Nat.reduceLT, Nat.reduceEqDiff, Nat.reduceAdd, Nat.reduceLeDiff, Nat.reducePow, Nat.reduceMul, tyW, Azz]
  refine CallK_of call10 (hX _ _ _ _ (hAt _ _ _ _ (by omega))) ?_
  rintro r h' ⟨⟨f3, rfl⟩, x3, y3, z3, m3, hm3, rfl⟩
  have hm3 : m2 ≤ m3 := hm3
  simp -implicitDefEqProofs (disch := omega) only [Xzz, Yzy, Dzz, ↓reduceIte, reduceCtorEq, Nat.reduceLT, Nat.reduceEqDiff, Nat.reduceAdd, Nat.reduceLeDiff, Nat.reducePow, Nat.reduceMul, tyW, Azz]
  have hr1 := rows_spec [4] [4] f1 true (by decide) (by decide)
  rw [show decide (([4] : List Nat) = [4]) = true by decide] at hr1
  have hr2 := rows_spec [2, 3] [2, 3] f3 true (by decide) (by decide)
  rw [show decide (([2, 3] : List Nat) = [2, 3]) = true by decide] at hr2
  have gR : ∀ (l : List Nat) f, GP (.vec (l.map rowI) f) := fun l f => .of_pure (.vec (pure_rows pure_rowI l))
  have gI : ∀ (l : List It) f, GP (.vec (l.map encI) f) := fun l f => .of_pure (.vec (pure_rows pure_encI l))
  refine CallK_k call12 hr1 (allc (gR [4] f1) (allc (gR [4] true) alln)) (.lit _) ?_
  simp -implicitDefEqProofs (disch := omega) only [Xzz, Yzy, Dzz, ↓reduceIte, reduceCtorEq, Nat.reduceLT, Nat.reduceEqDiff, Nat.reduceAdd, Nat.reduceLeDiff, Nat.reducePow, Nat.reduceMul, tyW, Azz]
  refine CallK_k call12 hr2 (allc (gR [2, 3] f3) (allc (gR [2, 3] true) alln)) (.lit _) ?_
  simp -implicitDefEqProofs (disch := omega) only [Xzz, Yzy, Dzz, ↓reduceIte, reduceCtorEq, Nat.reduceLT, Nat.reduceEqDiff, Nat.reduceAdd, Nat.reduceLeDiff, Nat.reducePow, Nat.reduceMul, tyW, Azz]
  refine CallK_k call14 Small_spec alln gN ?_
  simp -implicitDefEqProofs (disch := omega) only [Xzz, Yzy, Dzz, ↓reduceIte, reduceCtorEq, Nat.reduceLT, Nat.reduceEqDiff, Nat.reduceAdd, Nat.reduceLeDiff, Nat.reducePow, Nat.reduceMul, tyW, Azz]
  refine CallK_pure call15 (Row_spec true [1, 3] true (by decide)) (allc (.lit _) (allc (.vec (pure_rows pure_rowI [1, 3])) alln)) (.vec (pure_rows pure_encI _)) ?_
  simp -implicitDefEqProofs (disch := omega) only [Xzz, Yzy, Dzz, ↓reduceIte, reduceCtorEq, Nat.reduceLT, Nat.reduceEqDiff, Nat.reduceAdd, Nat.reduceLeDiff, Nat.reducePow, Nat.reduceMul, tyW, Azz]
  refine CallK_k call16 hY (allc gN (allc (gp_nil) (allc (.lit _) (allc (gI _ _) alln)))) (.lit _) ?_
  simp -implicitDefEqProofs (disch := omega) only [Xzz, Yzy, Dzz, ↓reduceIte, reduceCtorEq, Nat.reduceLT, Nat.reduceEqDiff, Nat.reduceAdd, Nat.reduceLeDiff, Nat.reducePow, Nat.reduceMul, tyW, Azz]
  refine CallK_k call14 Small_spec alln gN ?_
  simp -implicitDefEqProofs (disch := omega) only [Xzz, Yzy, Dzz, ↓reduceIte, reduceCtorEq, Nat.reduceLT, Nat.reduceEqDiff, Nat.reduceAdd, Nat.reduceLeDiff, Nat.reducePow, Nat.reduceMul, tyW, Azz]
  refine CallK_pure call15 (Row_spec true [1] true (by decide)) (allc (.lit _) (allc (.vec (pure_rows pure_rowI [1])) alln)) (.vec (pure_rows pure_encI _)) ?_
  simp -implicitDefEqProofs (disch := omega) only [Xzz, Yzy, Dzz, ↓reduceIte, reduceCtorEq, Nat.reduceLT, Nat.reduceEqDiff, Nat.reduceAdd, Nat.reduceLeDiff, Nat.reducePow, Nat.reduceMul, tyW, Azz]
  refine CallK_k call16 hZ (allc gN (allc (gp_nil) (allc (.lit _) (allc (gI _ _) alln)))) (.lit _) ?_
  simp -implicitDefEqProofs (disch := omega) only [Xzz, Yzy, Dzz, ↓reduceIte, reduceCtorEq, Nat.reduceLT, Nat.reduceEqDiff, Nat.reduceAdd, Nat.reduceLeDiff, Nat.reducePow, Nat.reduceMul, tyW, Azz]
  exact kexpo (.lit _)
end Go.Proofs.Ytbbnfbnicacdoaa
end
section
namespace Go.Proofs.Ytbbnfbnicacdoaa
open Go Go.Ab
set_option linter.unusedSimpArgs false
set_option linter.unusedVariables false
set_option maxRecDepth 20000
set_option maxHeartbeats 4000000
end Go.Proofs.Ytbbnfbnicacdoaa
end
section
namespace Go.Proofs.Ytbbnfbnicacdoaa
open Go Go.Ab
set_option linter.unusedSimpArgs false
set_option linter.unusedVariables false
set_option maxRecDepth 20000
mutual
def gz : Gd → Nat
  | .mk _ _ name kids => 1 + name.size + gzs kids
def gzs : List Gd → Nat
  | [] => 0
  | g :: l => gz g + gzs l
end
theorem gzs_sum (l : List Gd) : gzs l = (l.map gz).sum := by induction l with | nil => rfl | cons x l ih => simp [gzs, ih]
theorem gz_eq (g : Gd) : gz g = 1 + g.name.size + (g.kids.map gz).sum := by cases g; simp only [gz, gzs_sum]; rfl
theorem sum_le {l : List Gd} {f g : Gd → Nat} (h : ∀ x ∈ l, f x ≤ g x) : (l.map f).sum ≤ (l.map g).sum := by
  induction l with
  | nil => simp
  | cons x l ih =>
    simp only [List.map_cons, List.sum_cons]
    have := h x (by simp)
    have := ih (fun y hy => h y (by simp [hy]))
    omega
theorem gz_ok : ∀ (m : Nat) (g : Gd), gz g ≤ m → m ≤ 1000000000 → GdOk g ∧ gsz g ≤ gz g := by
  intro m
  induction m using Nat.strongRecOn with
  | _ m ih =>
    intro g h hm
    have hk : ∀ k ∈ g.kids, GdOk k ∧ gsz k ≤ gz k := fun k hk => by
      have h1 := sum_mem (List.mem_map_of_mem (f := gz) hk)
      have h2 := gz_eq g
      exact ih (gz k) (by omega) k (Nat.le_refl _) (by omega)
    refine ⟨.mk (by have := gz_eq g; omega) fun k hk' => (hk k hk').1, ?_⟩
    rw [gsz_eq, gz_eq]
    have := sum_le fun x hx => (hk x hx).2
    omega
abbrev RgS : Type := {p : Int × Int // (-2147483648 ≤ p.1 ∧ p.1 ≤ 2147483647) ∧ (-2147483648 ≤ p.2 ∧ p.2 ≤ 2147483647)}
abbrev EdS : Type := {e : Ed // SetOk e.set}
abbrev StS : Type := {s : Sta // ∀ e ∈ s.edges, SetOk e.set}
def edz (e : Ed) : Nat := 1 + e.set.length + gz e.g + e.acts.length
def stz (s : Sta) : Nat := 1 + (s.edges.map edz).sum
def nrz (r : Nr) : Nat := 1 + r.name.size
def baz (s : ByteArray) : Nat := 1 + s.size
def ntz (n : Nt) : Nat := 1 + (n.types.map baz).sum + (n.channels.map baz).sum + (n.modes.map baz).sum + (n.rules.map nrz).sum + (n.states.map stz).sum
theorem i32_wf {z : Int} (h : (Lit.int .i32 z).wf = true) : -2147483648 ≤ z ∧ z ≤ 2147483647 := by
  simp only [Lit.wf, Bool.and_eq_true, decide_eq_true_eq] at h
  have e1 : IntKind.i32.min = -2147483648 := by decide
  have e2 : IntKind.i32.max = 2147483647 := by decide
  omega
theorem all_val {α : Type} {P : α → Prop} (l : List {a // P a}) : ∀ a ∈ l.map (fun x => x.1), P a := fun a h => by
  obtain ⟨x, _, rfl⟩ := List.mem_map.1 h; exact x.2
section
variable {H : Type} {en : TypeId × Value → H} {W : World}
theorem rs_gd (n : Nat) : Rd en Try.prog W n 57 (fun av m => ∃ t : Gd, av = encG t ∧ gz t ≤ m) := by
  induction n using Nat.strongRecOn with
  | _ n ih =>
    refine (Rd.struct' ty57 rfl fun k hk => .cons ty52 (.int ty52 rfl) (.cons ty2 (.int ty2 rfl) (.cons ty9 (.str ty9 rfl)
      (.cons ty55 (.slice' ty55 rfl ty57 (by decide) (f := encG) (sz := gz) fun j hj => ih j (by omega)) (.nil (by decide)))))).mono ?_
    rintro av m ⟨q, h, rfl⟩
    obtain ⟨_, _, _, _, rfl, ⟨z1, w1, rfl⟩, h, rfl⟩ := h
    obtain ⟨_, _, _, _, rfl, ⟨z2, _, rfl⟩, h, rfl⟩ := h
    obtain ⟨_, _, _, _, rfl, ⟨s, hs, hs2, rfl⟩, h, rfl⟩ := h
    obtain ⟨_, _, _, _, rfl, ⟨l, rfl, hl, _⟩, rfl, rfl⟩ := h
    exact ⟨.mk ⟨z1, i8_wf w1⟩ z2 s l, by simp [encG, encGs_map], by simp only [gz, gzs_sum]; omega⟩
theorem rs_range (n : Nat) : Rd en Try.prog W n 104 (fun av m => ∃ t : RgS, av = encR t.1 ∧ 1 ≤ m) := by
  refine (Rd.struct' ty104 rfl fun k hk => .cons ty21 (.int ty21 rfl) (.cons ty21 (.int ty21 rfl) (.nil (by decide)))).mono ?_
  rintro av m ⟨q, h, rfl⟩
  obtain ⟨_, _, _, _, rfl, ⟨z1, w1, rfl⟩, h, rfl⟩ := h
  obtain ⟨_, _, _, _, rfl, ⟨z2, w2, rfl⟩, rfl, rfl⟩ := h
  exact ⟨⟨(z1, z2), i32_wf w1, i32_wf w2⟩, rfl, by omega⟩
theorem rs_ed (n : Nat) : Rd en Try.prog W n 60 (fun av m => ∃ t : EdS, av = encE t.1 ∧ edz t.1 ≤ m) := by
  refine (Rd.struct' ty60 rfl fun k hk => .cons ty52 (.int ty52 rfl) (.cons ty54 (.slice' ty54 rfl ty104 (by decide) (f := fun t : RgS => encR t.1) (sz := fun _ => 1) fun j _ => rs_range j)
    (.cons ty3 (.int ty3 rfl) (.cons ty3 (.int ty3 rfl) (.cons ty57 (rs_gd k)
    (.cons ty58 (.slice' ty58 rfl ty137 (by decide) (f := encAct) (sz := fun _ => 1) fun j _ => rd_act j) (.cons ty3 (.int ty3 rfl) (.nil (by decide))))))))).mono ?_
  rintro av m ⟨q, h, rfl⟩
  obtain ⟨_, _, _, _, rfl, ⟨z1, w1, rfl⟩, h, rfl⟩ := h
  obtain ⟨_, _, _, _, rfl, ⟨st, rfl, _, hs⟩, h, rfl⟩ := h
  obtain ⟨_, _, _, _, rfl, ⟨z2, _, rfl⟩, h, rfl⟩ := h
  obtain ⟨_, _, _, _, rfl, ⟨z3, _, rfl⟩, h, rfl⟩ := h
  obtain ⟨_, _, _, _, rfl, ⟨g, rfl, hg⟩, h, rfl⟩ := h
  obtain ⟨_, _, _, _, rfl, ⟨ac, rfl, _, ha⟩, h, rfl⟩ := h
  obtain ⟨_, _, _, _, rfl, ⟨z4, _, rfl⟩, rfl, rfl⟩ := h
  have hst : SetOk (st.map fun x => x.1) := all_val st
  exact ⟨⟨⟨⟨z1, i8_wf w1⟩, st.map (fun x => x.1), z2, z3, g, ac, z4⟩, hst⟩, by simp [encE, encG_eq, List.map_map, Function.comp_def], by simp only [edz, List.length_map]; omega⟩
theorem rs_sta (n : Nat) : Rd en Try.prog W n 51 (fun av m => ∃ t : StS, av = encSt t.1 ∧ stz t.1 ≤ m) := by
  refine (Rd.struct' ty51 rfl fun k hk => .cons ty3 (.int ty3 rfl) (.cons ty49 (.slice' ty49 rfl ty60 (by decide) (f := fun t : EdS => encE t.1) (sz := fun t : EdS => edz t.1) fun j _ => rs_ed j) (.nil (by decide)))).mono ?_
  rintro av m ⟨q, h, rfl⟩
  obtain ⟨_, _, _, _, rfl, ⟨z1, _, rfl⟩, h, rfl⟩ := h
  obtain ⟨_, _, _, _, rfl, ⟨l, rfl, hl, _⟩, rfl, rfl⟩ := h
  exact ⟨⟨⟨z1, l.map (fun x => x.1)⟩, all_val l⟩, by simp [encSt, List.map_map, Function.comp_def], by simp only [stz, List.map_map, Function.comp_def]; omega⟩
theorem rs_nr (n : Nat) : Rd en Try.prog W n 83 (fun av m => ∃ t : Nr, av = encNr t ∧ nrz t ≤ m) := by
  refine (Rd.struct' ty83 rfl fun k hk => .cons ty9 (.str ty9 rfl) (.cons ty4 (.bool ty4 rfl) (.cons ty4 (.bool ty4 rfl) (.cons ty4 (.bool ty4 rfl) (.cons ty4 (.bool ty4 rfl)
    (.cons ty3 (.int ty3 rfl) (.cons ty3 (.int ty3 rfl) (.cons ty3 (.int ty3 rfl) (.cons ty3 (.int ty3 rfl) (.nil (by decide))))))))))).mono ?_
  rintro av m ⟨q, h, rfl⟩
  obtain ⟨_, _, _, _, rfl, ⟨s, hs, hs2, rfl⟩, h, rfl⟩ := h
  obtain ⟨_, _, _, _, rfl, ⟨b1, rfl⟩, h, rfl⟩ := h
  obtain ⟨_, _, _, _, rfl, ⟨b2, rfl⟩, h, rfl⟩ := h
  obtain ⟨_, _, _, _, rfl, ⟨b3, rfl⟩, h, rfl⟩ := h
  obtain ⟨_, _, _, _, rfl, ⟨b4, rfl⟩, h, rfl⟩ := h
  obtain ⟨_, _, _, _, rfl, ⟨z1, _, rfl⟩, h, rfl⟩ := h
  obtain ⟨_, _, _, _, rfl, ⟨z2, _, rfl⟩, h, rfl⟩ := h
  obtain ⟨_, _, _, _, rfl, ⟨z3, _, rfl⟩, h, rfl⟩ := h
  obtain ⟨_, _, _, _, rfl, ⟨z4, _, rfl⟩, rfl, rfl⟩ := h
  exact ⟨⟨s, b1, b2, b3, b4, z1, z2, z3, z4⟩, rfl, by simp only [nrz]; omega⟩
theorem rs_str (n : Nat) : Rd en Try.prog W n 9 (fun av m => ∃ t : ByteArray, av = encB t ∧ baz t ≤ m) := by
  refine (Rd.str ty9 rfl).mono ?_
  rintro av m ⟨s, _, hs, rfl⟩
  exact ⟨s, rfl, by simp only [baz]; omega⟩
theorem rs_nt (n : Nat) : Rd en Try.prog W n 26 (fun av m => ∃ t : Nt, av = encN t ∧ ntz t ≤ m ∧ ∀ s ∈ t.states, ∀ e ∈ s.edges, SetOk e.set) := by
  have ws : ∀ k, Rd en Try.prog W k 22 (fun av m => ∃ l : List ByteArray, av = [.vec (l.map encB) false] ∧ (l.map baz).sum + 1 ≤ m ∧ l.length + 1 ≤ m) := fun k =>
    .slice' ty22 rfl ty9 (by decide) (f := encB) (sz := baz) fun j _ => rs_str j
  refine (Rd.struct' ty26 rfl fun k hk => .cons ty22 (ws k) (.cons ty22 (ws k) (.cons ty22 (ws k)
    (.cons ty23 (.slice' ty23 rfl ty83 (by decide) (f := encNr) (sz := nrz) fun j _ => rs_nr j)
    (.cons ty24 (.slice' ty24 rfl ty51 (by decide) (f := fun t : StS => encSt t.1) (sz := fun t : StS => stz t.1) fun j _ => rs_sta j) (.nil (by decide))))))).mono ?_
  rintro av m ⟨q, h, rfl⟩
  obtain ⟨_, _, _, _, rfl, ⟨l1, rfl, h1, _⟩, h, rfl⟩ := h
  obtain ⟨_, _, _, _, rfl, ⟨l2, rfl, h2, _⟩, h, rfl⟩ := h
  obtain ⟨_, _, _, _, rfl, ⟨l3, rfl, h3, _⟩, h, rfl⟩ := h
  obtain ⟨_, _, _, _, rfl, ⟨l4, rfl, h4, _⟩, h, rfl⟩ := h
  obtain ⟨_, _, _, _, rfl, ⟨l5, rfl, h5, _⟩, rfl, rfl⟩ := h
  exact ⟨⟨l1, l2, l3, l4, l5.map (fun x => x.1)⟩, by simp [encN, List.map_map, Function.comp_def], by simp only [ntz, List.map_map, Function.comp_def]; omega, all_val l5⟩
theorem ntOk_of {n : Nt} (h : ntz n ≤ 100000000) (p : ∀ s ∈ n.states, ∀ e ∈ s.edges, SetOk e.set) : NtOk n := by
  unfold ntz at h
  have b1 := sum_len baz (fun t => by unfold baz; omega) n.types
  have b2 := sum_len baz (fun t => by unfold baz; omega) n.channels
  have b3 := sum_len baz (fun t => by unfold baz; omega) n.modes
  have b4 := sum_len nrz (fun t => by unfold nrz; omega) n.rules
  have b5 := sum_len stz (fun t => by unfold stz; omega) n.states
  have sb : ∀ (l : List ByteArray), (l.map baz).sum ≤ 100000000 → ∀ s ∈ l, s.size ≤ 9000000000000000000 := fun l hl s hs => by
    have := sum_mem (List.mem_map_of_mem (f := baz) hs)
    unfold baz at this hl; omega
  refine ⟨by omega, by omega, by omega, by omega, by omega, sb _ (by omega), sb _ (by omega), sb _ (by omega), fun r hr => ?_, fun s hs => ?_⟩
  · have := sum_mem (List.mem_map_of_mem (f := nrz) hr)
    have e : nrz r = 1 + r.name.size := rfl
    omega
  · have h1 := sum_mem (List.mem_map_of_mem (f := stz) hs)
    have e1 : stz s = 1 + (s.edges.map edz).sum := rfl
    have h2 := sum_len edz (fun t => by unfold edz; omega) s.edges
    refine ⟨by omega, fun e he => ?_⟩
    have h3 := sum_mem (List.mem_map_of_mem (f := edz) he)
    have e2 : edz e = 1 + e.set.length + gz e.g + e.acts.length := rfl
    obtain ⟨q1, q2⟩ := gz_ok _ e.g (Nat.le_refl _) (by omega)
    exact ⟨by omega, by omega, by omega, q1, p s hs e he⟩
theorem rd_items (n : Nat) : Rd en Try.prog W n 27 (fun av m => ∃ l : List It, av = [.vec (l.map encI) false] ∧ l.length ≤ m) :=
  (Rd.slice' ty27 rfl ty41 (by decide) (f := encI) (sz := fun _ => 1) fun j _ => rd_item j).mono fun av m ⟨l, h1, _, h2⟩ => ⟨l, h1, by omega⟩
end
end Go.Proofs.Ytbbnfbnicacdoaa
end
section
namespace Go.Proofs.Ytbbnfbnicacdoaa
open Go Go.Ab
set_option linter.unusedSimpArgs false
set_option linter.unusedVariables false
theorem plain_edge {n : Nt} (h : plainS n.states = true) {s : Nat} {e : Ed} (he : e ∈ (n.states.getD s default).edges) : e.op.1 ≠ 3 := by
  rcases Nat.lt_or_ge s n.states.length with hs | hs
  · have h1 := List.all_eq_true.1 h _ (getD_mem hs)
    exact of_decide_eq_true (List.all_eq_true.1 h1 e he)
  · have : n.states.getD s default = default := by rw [List.getD_eq_getElem?_getD, List.getElem?_eq_none hs]; rfl
    rw [this] at he; cases he
theorem take_getD {T : Type} [Inhabited T] {l : List T} {i p : Nat} (h : p < i) : (l.take i).getD p default = l.getD p default := by
  rw [List.getD_eq_getElem?_getD, List.getD_eq_getElem?_getD, List.getElem?_take, if_pos h]
theorem goV_take {o : List Orc} {L : List It} {e : Ed} {lv : Int} {p i : Nat} (h3 : e.op.1 ≠ 3) (hi : i ≤ L.length) (hp : p + (goV o L e lv p).1 ≤ i) (hg : (goV o L e lv p).2 = true) : goV o (L.take i) e lv p = goV o L e lv p := by
  have hl : (L.take i).length = i := by rw [List.length_take]; omega
  unfold goV at hp hg ⊢
  by_cases h1 : e.op.1 = 1
  · simp only [if_pos h1] at hp hg ⊢
    by_cases hb : L.length ≤ p
    · rw [if_pos hb] at hg; cases hg
    · rw [if_neg hb] at hp hg ⊢
      have hp : p + 1 ≤ i := hp
      rw [if_neg (by rw [hl]; omega), take_getD (by omega)]
  · simp only [if_neg h1, if_neg h3]
section
variable {n : Nt} {o : List Orc} {L : List It} (w : Wf n) (pl : plainS n.states = true) {i : Nat} (hi : i ≤ L.length)
include w pl hi
theorem rs_take {c : Cl} {s p : Nat} (h : Rs n o L c s p) : c.rule < n.rules.length → c.pos ≤ i → (p ≤ i → Rs n o (L.take i) c s p) ∧ (i ≤ p → Op1 n o (L.take i) c) := by
  have hl : (L.take i).length = i := by rw [List.length_take]; omega
  have here : ∀ {c : Cl} {s : Nat}, Rs n o (L.take i) c s i → Op1 n o (L.take i) c := fun r => .here (by rw [hl]; exact r)
  induction h with
  | @start c =>
    intro hr hc
    refine ⟨fun _ => .start, fun q => here (s := stN n c.rule) ?_⟩
    have : i = c.pos := by omega
    rw [this]; exact .start
  | @edge c s p e h1 h2 h3 ih =>
    intro hr hc
    obtain ⟨j1, j2⟩ := ih hr hc
    have h33 := plain_edge pl h2
    have step : p + (goV o L e c.level p).1 ≤ i → Rs n o (L.take i) c e.to.toNat (p + (goV o L e c.level p).1) := fun q => by
      have hg := goV_take (o := o) (L := L) (e := e) (lv := c.level) (p := p) h33 hi q h3
      have := Rs.edge (j1 (by omega)) h2 (by rw [hg]; exact h3)
      rw [hg] at this; exact this
    refine ⟨step, fun q => ?_⟩
    rcases Nat.lt_or_ge p i with hp | hp
    · rcases goV_le (o := o) (L := L) (e := e) (lv := c.level) (p := p) with q1 | ⟨q1, _, _⟩
      · omega
      · have he : p + (goV o L e c.level p).1 = i := by omega
        have := step (by omega)
        rw [he] at this
        exact here this
    · exact j2 hp
  | @call c s p k e h1 h2 h3 h4 ih1 ih2 =>
    intro hr hc
    obtain ⟨j1, j2⟩ := ih1 hr hc
    have hs : s < n.states.length := by
      rcases Nat.lt_or_ge s n.states.length with q | q
      · exact q
      · have : n.states.getD s default = default := by rw [List.getD_eq_getElem?_getD, List.getElem?_eq_none q]; rfl
        rw [this] at h2; cases h2
    have hcl := w.call hs h2 h3
    have hr2 : e.n.toNat < n.rules.length := by omega
    have hpk : p ≤ i → p ≤ k := fun q => (Rs.le w h4 hr2 (by show p ≤ L.length; omega)).1
    refine ⟨fun q => ?_, fun q => ?_⟩
    · rcases Nat.lt_or_ge i p with hp | hp
      ·
        exfalso
        rcases Nat.lt_or_ge L.length p with hpl | hpl
        · have key : ∀ {d : Cl} {t q : Nat}, Rs n o L d t q → d.rule < n.rules.length → d.pos ≤ q := by
            intro d t q r
            induction r with
            | start => intro _; exact Nat.le_refl _
            | edge _ _ _ ih => intro hd; have := ih hd; omega
            | @call d s p k e r1 r2 r3 r4 ih1 ih2 =>
              intro hd
              have hs : s < n.states.length := by
                rcases Nat.lt_or_ge s n.states.length with q | q
                · exact q
                · have : n.states.getD s default = default := by rw [List.getD_eq_getElem?_getD, List.getElem?_eq_none q]; rfl
                  rw [this] at r2; cases r2
              have hcl := w.call hs r2 r3
              have h1 := ih1 hd
              have h2 := ih2 (by show e.n.toNat < _; omega)
              simp only at h2; omega
          have := key h4 hr2
          simp only at this; omega
        · have := (Rs.le w h4 hr2 hpl).1
          simp only at this; omega
      · exact .call (j1 hp) h2 h3 ((ih2 hr2 hp).1 q)
    · rcases Nat.lt_or_ge i p with hp | hp
      · exact j2 (by omega)
      · exact .call (j1 hp) h2 h3 ((ih2 hr2 hp).2 q)
theorem op_take {c : Cl} (h : Op1 n o L c) : c.rule < n.rules.length → c.pos ≤ i → Op1 n o (L.take i) c := by
  induction h with
  | here h => intro hr hc; exact (rs_take w pl hi h hr hc).2 hi
  | @call c s p e h1 h2 h3 h4 ih =>
    intro hr hc
    have hs : s < n.states.length := by
      rcases Nat.lt_or_ge s n.states.length with q | q
      · exact q
      · have : n.states.getD s default = default := by rw [List.getD_eq_getElem?_getD, List.getElem?_eq_none q]; rfl
        rw [this] at h2; cases h2
    have hcl := w.call hs h2 h3
    obtain ⟨j1, j2⟩ := rs_take w pl hi h1 hr hc
    rcases Nat.lt_or_ge i p with hp | hp
    · exact j2 (by omega)
    · exact .call (j1 hp) h2 h3 (ih (by show e.n.toNat < _; omega) hp)
end
theorem anyLe0_get {l : List It} (h : anyLe0 l = false) {j : Nat} (hj : j < l.length) : 0 < (l.getD j default).type := by
  unfold anyLe0 at h
  rw [List.any_eq_false] at h
  have := h _ (getD_mem hj)
  simpa using this
theorem anyLe0_take {l : List It} {i j : Nat} (hij : i ≤ j) (h : anyLe0 (l.take j) = false) : anyLe0 (l.take i) = false := by
  unfold anyLe0 at h ⊢
  rw [List.any_eq_false] at h ⊢
  intro x hx
  refine h x ?_
  have : l.take i = (l.take j).take i := by rw [List.take_take, Nat.min_eq_left hij]
  rw [this] at hx
  exact List.mem_of_mem_take hx
theorem viaV_take {n : Nt} {o : List Orc} {L : List It} (w : Wf n) (pl : plainS n.states = true) {rn : Nat} (hr : rn < n.rules.length) {i k : Nat} (hi : 1 ≤ i) (hik : i < k) (hk : k ≤ L.length) (h : viaV n o rn (L.take k) = true) : viaV n o rn (L.take i) = true := by
  have lk : (L.take k).length = k := by rw [List.length_take]; omega
  have li : (L.take i).length = i := by rw [List.length_take]; omega
  have tt : (L.take k).take i = L.take i := by rw [List.take_take, Nat.min_eq_left (by omega)]
  unfold viaV at h ⊢
  rw [lk] at h
  rw [li]
  rw [if_pos (by omega)] at h ⊢
  cases ha : anyLe0 ((L.take k).take (k - 1)) with
  | true => rw [ha] at h; simp at h
  | false =>
    rw [ha] at h
    simp only [Bool.false_eq_true, if_false] at h
    have ha2 : anyLe0 (L.take (k - 1)) = false := by rw [List.take_take, Nat.min_eq_left (by omega)] at ha; exact ha
    have hb : anyLe0 ((L.take i).take (i - 1)) = false := by
      rw [List.take_take, Nat.min_eq_left (by omega)]
      exact anyLe0_take (by omega) ha2
    rw [hb]
    simp only [Bool.false_eq_true, if_false]
    have ht : 0 < ((L.take i).getD (i - 1) default).type := by
      rw [take_getD (by omega)]
      have := anyLe0_get ha2 (j := i - 1) (by rw [List.length_take]; omega)
      rwa [take_getD (by omega)] at this
    rw [if_neg (by omega)]
    refine opB_true.2 ?_
    have hik' : i ≤ (L.take k).length := by omega
    split at h
    · have hrs := (whW_bit.1 h).2
      have := (rs_take w pl hik' hrs hr (Nat.zero_le _)).2 (by omega)
      rw [tt] at this; exact this
    · have := op_take w pl hik' (opB_true.1 h) hr (Nat.zero_le _)
      rw [tt] at this; exact this
theorem viaN_le (n : Nt) (o : List Orc) (rn : Nat) (L : List It) : ∀ k, viaN n o rn L k ≤ k
  | 0 => Nat.le_refl _
  | k + 1 => by
    unfold viaN
    split
    · exact Nat.le_refl _
    · have := viaN_le n o rn L k; omega
theorem viaN_true (n : Nt) (o : List Orc) (rn : Nat) (L : List It) : ∀ k, 0 < viaN n o rn L k → viaV n o rn (L.take (viaN n o rn L k)) = true
  | 0, h => absurd h (Nat.lt_irrefl _)
  | k + 1, h => by
    unfold viaN at h ⊢
    by_cases q : viaV n o rn (L.take (k + 1)) = true
    · rw [if_pos q]; exact q
    · rw [if_neg q] at h ⊢; exact viaN_true n o rn L k h
theorem viaN_take (n : Nt) (o : List Orc) (rn : Nat) (L : List It) (i : Nat) : ∀ j, j ≤ i → viaN n o rn (L.take i) j = viaN n o rn L j
  | 0, _ => rfl
  | j + 1, h => by
    unfold viaN
    rw [List.take_take, Nat.min_eq_left h, viaN_take n o rn L i j (by omega)]
theorem viaN_down (n : Nt) (o : List Orc) (rn : Nat) (L : List It) {K : Nat} : ∀ d m, viaN n o rn L (m + d) = K → K ≤ m → viaN n o rn L m = K
  | 0, m, h, _ => h
  | d + 1, m, h, hk => by
    refine viaN_down n o rn L d m ?_ hk
    have h : viaN n o rn L (m + d + 1) = K := h
    unfold viaN at h
    split at h
    · omega
    · exact h
theorem viaN_min {n : Nt} {o : List Orc} {L : List It} (w : Wf n) (pl : plainS n.states = true) {rn : Nat} (hr : rn < n.rules.length) {i : Nat} (hi : i ≤ L.length) : viaN n o rn (L.take i) i = min i (viaN n o rn L L.length) := by
  rw [viaN_take n o rn L i i (Nat.le_refl _)]
  obtain ⟨K, hK⟩ : ∃ K, viaN n o rn L L.length = K := ⟨_, rfl⟩
  have hle := viaN_le n o rn L L.length
  have htr := viaN_true n o rn L L.length
  rw [hK] at hle htr ⊢
  rcases Nat.lt_or_ge i K with q | q
  · rw [Nat.min_eq_left (by omega)]
    cases i with
    | zero => rfl
    | succ i =>
      unfold viaN
      rw [if_pos (viaV_take w pl hr (by omega) q hle (htr (by omega)))]
  · rw [Nat.min_eq_right q]
    exact viaN_down n o rn L (L.length - i) i (by rw [Nat.add_sub_cancel' hi]; exact hK) q
theorem viaN_all {n : Nt} {o : List Orc} {rn : Nat} {A : List It} {k : Nat} (h : A.length = k + 1) : (viaN n o rn A (k + 1) = k + 1) ↔ viaV n o rn A = true := by
  have ht : A.take (k + 1) = A := List.take_of_length_le (by omega)
  unfold viaN
  rw [ht]
  by_cases q : viaV n o rn A = true
  · rw [if_pos q]; simp [q]
  · rw [if_neg q]
    have := viaN_le n o rn A k
    constructor
    · intro h; omega
    · intro h; exact absurd h q
theorem filt_split (p : Nat → Bool) {t K : Nat} (h : t < K) : ∃ R, (List.range K).filter p = (List.range t).filter p ++ ((if p t then [t] else []) ++ R) ∧ ∀ x ∈ R, t < x := by
  obtain ⟨d, rfl⟩ : ∃ d, K = t + 1 + d := ⟨K - (t + 1), by omega⟩
  refine ⟨((List.range d).map (t + 1 + ·)).filter p, ?_, fun x hx => ?_⟩
  · have h1 : [t].filter p = if p t then [t] else [] := by cases h : p t <;> simp [h]
    rw [List.range_add, List.filter_append, List.range_succ, List.filter_append, List.append_assoc, h1]
  · have hx := (List.mem_filter.1 hx).1
    obtain ⟨y, _, rfl⟩ := List.mem_map.1 hx
    omega
theorem filt_at (p : Nat → Bool) {t K : Nat} (h : t < K) : (decide (((List.range t).filter p).length < ((List.range K).filter p).length) && decide (((List.range K).filter p).getD ((List.range t).filter p).length default = t)) = p t := by
  obtain ⟨R, hR, hx⟩ := filt_split p h
  rw [hR]
  cases q : p t with
  | true =>
    simp [List.getD_eq_getElem?_getD, List.getElem?_append_right]
  | false =>
    cases R with
    | nil => simp
    | cons y R =>
      have := hx y (by simp)
      simp [List.getD_eq_getElem?_getD, List.getElem?_append_right]
      omega
end Go.Proofs.Ytbbnfbnicacdoaa
end
section
namespace Go.Proofs.Ytbbnfbnicacdoaa
open Go Go.Ab
set_option linter.unusedSimpArgs false
set_option linter.unusedVariables false
set_option maxRecDepth 20000
set_option maxHeartbeats 4000000
theorem asksV_le {n : Nt} {rule : Int} {k i : Nat} (h : asksV n rule k = 0) (hi : i ≤ 601) : asksV n rule i = 0 := by
  obtain ⟨z1, z2, z3, z4⟩ := asksV_0 h
  unfold asksV at h ⊢
  split at h
  · cases h
  · split at h
    · cases h
    · split at h
      · cases h
      · rename_i q1 q2 q3
        rw [if_neg q1, if_neg q2, if_neg q3, if_neg (by omega)]
theorem next_spec (n : Nt) (rule : Int) (L : List It) (ok : NtOk n) (hL : L.length ≤ 1000000000) :
    KCall Try.prog 3 [.agg (encN n), .lit (.int .i64 rule), .vec (L.map encI) false] (.lit (.bool true)) := by
  have gN : GP (.agg (encN n)) := .of_pure (.agg (pure_encN _))
  have gI : ∀ (l : List It) f, GP (.vec (l.map encI) f) := fun l f => .of_pure (.vec (pure_rows pure_encI l))
  have hg := great_spec n [] L true false ok (by decide) hL
  have hp := plain_spec n ok
  have hi := greatV_items (n := n) (o := []) (L := L)
  obtain ⟨g, hge⟩ : ∃ g, greatV n [] L = g := ⟨_, rfl⟩
  rw [hge] at hg hi
  obtain ⟨pl, hpl⟩ : ∃ pl, plainS n.states = pl := ⟨_, rfl⟩
  rw [hpl] at hp
  have hn := New_any n [] true ok (by decide) ⟨[(0, encN n)], [], 1⟩ (fun i hi => lk_lt (N := 1) (by simp) hi)
  unfold encN at hn hg hp
  have bt := ok.types
  refine KCall_of (SCall_introK Try.func3 rfl Try.ntmps3 (rs := [.tmp 6]) rfl (by simp) ?_)
  refine aw_of ?_
  have ret : ∀ (h : Hp), KExpo h (.lit (.bool true)) (.lit (.bool true)) := fun h => kexpo (.lit _)
  simp -implicitDefEqProofs (disch := omega) only [Xzz, Yzy, Dzz, ↓reduceIte, reduceCtorEq, Nat.reduceLT, Nat.reduceEqDiff, Nat.reduceAdd, Nat.reduceLeDiff, Nat.reducePow, Nat.reduceMul, tyW, Azz, encN]
  refine CallK_k call5 hg (allc gN (allc gp_nil (allc (gI _ _) alln))) (.lit _) ?_
  cases g with
  | true =>
    simp -implicitDefEqProofs (disch := omega) only [Xzz, Yzy, Dzz, ↓reduceIte, reduceCtorEq, Nat.reduceLT, Nat.reduceEqDiff, Nat.reduceAdd, Nat.reduceLeDiff, Nat.reducePow, Nat.reduceMul, tyW, Azz]
    refine CallK_k call7 wakes_spec alln (.lit _) ?_
    simp -implicitDefEqProofs (disch := omega) only [Xzz, Yzy, Dzz, ↓reduceIte, reduceCtorEq, Nat.reduceLT, Nat.reduceEqDiff, Nat.reduceAdd, Nat.reduceLeDiff, Nat.reducePow, Nat.reduceMul, tyW, Azz]
    exact ret _
  | false =>
    by_cases h12 : 12 < L.length
    · simp -implicitDefEqProofs (disch := omega) only [Xzz, Yzy, Dzz, ↓reduceIte, reduceCtorEq, Nat.reduceLT, Nat.reduceEqDiff, Nat.reduceAdd, Nat.reduceLeDiff, Nat.reducePow, Nat.reduceMul, tyW, Azz]
      refine CallK_k call7 wakes_spec alln (.lit _) ?_
      simp -implicitDefEqProofs (disch := omega) only [Xzz, Yzy, Dzz, ↓reduceIte, reduceCtorEq, Nat.reduceLT, Nat.reduceEqDiff, Nat.reduceAdd, Nat.reduceLeDiff, Nat.reducePow, Nat.reduceMul, tyW, Azz]
      exact ret _
    · simp -implicitDefEqProofs (disch := omega) only [Xzz, Yzy, Dzz, ↓reduceIte, reduceCtorEq, Nat.reduceLT, Nat.reduceEqDiff, Nat.reduceAdd, Nat.reduceLeDiff, Nat.reducePow, Nat.reduceMul, tyW, Azz]
      refine CallK_k call6 hp (allc gN alln) (.lit _) ?_
      cases pl with
      | false =>
        simp -implicitDefEqProofs (disch := omega) only [Xzz, Yzy, Dzz, ↓reduceIte, reduceCtorEq, Nat.reduceLT, Nat.reduceEqDiff, Nat.reduceAdd, Nat.reduceLeDiff, Nat.reducePow, Nat.reduceMul, tyW, Azz]
        refine CallK_k call7 wakes_spec alln (.lit _) ?_
        simp -implicitDefEqProofs (disch := omega) only [Xzz, Yzy, Dzz, ↓reduceIte, reduceCtorEq, Nat.reduceLT, Nat.reduceEqDiff, Nat.reduceAdd, Nat.reduceLeDiff, Nat.reducePow, Nat.reduceMul, tyW, Azz]
        exact ret _
      | true =>
        simp -implicitDefEqProofs (disch := omega) only [Xzz, Yzy, Dzz, ↓reduceIte, reduceCtorEq, Nat.reduceLT, Nat.reduceEqDiff, Nat.reduceAdd, Nat.reduceLeDiff, Nat.reducePow, Nat.reduceMul, tyW, Azz]
        refine CallK_of call8 hn ?_
        rintro r h' ⟨q1, q2⟩
        cases hok : okV n with
        | false =>
          obtain ⟨rfl, rfl⟩ := q2 hok
          clear q1 q2
          simp -implicitDefEqProofs (disch := omega) only [Xzz, Yzy, Dzz, ↓reduceIte, reduceCtorEq, Nat.reduceLT, Nat.reduceEqDiff, Nat.reduceAdd, Nat.reduceLeDiff, Nat.reducePow, Nat.reduceMul, tyW, Azz]
          refine CallK_k call7 wakes_spec alln (.lit _) ?_
          simp -implicitDefEqProofs (disch := omega) only [Xzz, Yzy, Dzz, ↓reduceIte, reduceCtorEq, Nat.reduceLT, Nat.reduceEqDiff, Nat.reduceAdd, Nat.reduceLeDiff, Nat.reducePow, Nat.reduceMul, tyW, Azz]
          exact ret _
        | true =>
          obtain ⟨rfl, rfl⟩ := q1 hok
          clear q1 q2
          have N : NetOk n [] := netOk_of ok (by decide) hok
          have hV := Viable_spec n [] N rule L (.inl (by omega)) hL
          have hX := Next_spec n [] N rule (L.length : Int) 0 L (.inl (by omega)) hL
          have hz := fun q => asksV_0 (n := n) (rule := rule) (k := L.length) q
          have hz2 := fun q i => asksV_le (n := n) (rule := rule) (k := L.length) (i := i) q
          have hA : ∀ (a b c : AV) m, 3 ≤ m → AtA n [] ⟨[(0, [.vec (n.types.map encB) false, .vec (n.channels.map encB) false, .vec (n.modes.map encB) false, .vec (n.rules.map encNr) false, .vec (n.states.map encSt) false]), (2, askX n [] a b c)], [], m⟩ 2 a b c := fun a b c m hm => ⟨rfl, fun i hi => lk_lt (N := 3) (by simp) (by have hi : m ≤ i := hi; omega), fun _ _ => rfl, rfl⟩
          simp -implicitDefEqProofs (disch := omega) only [Xzz, Yzy, Dzz, ↓reduceIte, reduceCtorEq, Nat.reduceLT, Nat.reduceEqDiff, Nat.reduceAdd, Nat.reduceLeDiff, Nat.reducePow, Nat.reduceMul, tyW, Azz]
          refine CallK_of call9 (hV _ _ _ _ _ (hA _ _ _ _ (by decide))) ?_
          rintro r h' ⟨rfl, a1, b1, c1, m1, hm1, rfl⟩
          have hm1 : 3 ≤ m1 := hm1
          obtain ⟨e, he⟩ : ∃ e, asksV n rule L.length = e := ⟨_, rfl⟩
          rw [he] at hz hz2 hX ⊢
          by_cases h0 : e = 0
          · subst h0
            obtain ⟨z1, z2, z3, z4⟩ := hz rfl
            obtain ⟨rn, hrn⟩ : ∃ rn, rule.toNat = rn := ⟨_, rfl⟩
            rw [hrn] at z2 z3 hX ⊢
            subst z3
            obtain ⟨K, hK⟩ : ∃ K, viaN n [] rn L L.length = K := ⟨_, rfl⟩
            have hmin := fun i (hi : i ≤ L.length) => viaN_min (o := []) (L := L) N.w hpl z2 hi
            rw [hK] at hmin
            have hKl := viaN_le n [] rn L L.length
            rw [hK] at hKl
            simp -implicitDefEqProofs (disch := omega) only [Xzz, Yzy, Dzz, ↓reduceIte, reduceCtorEq, Nat.reduceLT, Nat.reduceEqDiff, Nat.reduceAdd, Nat.reduceLeDiff, Nat.reducePow, Nat.reduceMul, tyW, Azz, if_true, hK]
            refine aw_measA (fun x : Nat × AV × AV × AV × Nat => ⟨[(10, .lit (.int .i64 (x.1 : Int))), (9, .lit (.int .i64 (K : Int))), (7, .ptr 2 0), (1, .lit (.int .i64 (rn : Int))), (2, .vec (L.map encI) false), (3, .ptr 0 0)], ⟨[(0, [.vec (n.types.map encB) false, .vec (n.channels.map encB) false, .vec (n.modes.map encB) false, .vec (n.rules.map encNr) false, .vec (n.states.map encSt) false]), (2, askX n [] x.2.1 x.2.2.1 x.2.2.2.1)], [], x.2.2.2.2⟩, 157⟩) (fun x => x.1 ≤ L.length + 1 ∧ 3 ≤ x.2.2.2.2) (fun x => L.length + 1 - x.1)
              (0, a1, b1, c1, m1) (wk_lk (by simp [lk]) (fun _ _ q => q) (fun _ _ q => q) rfl rfl) ⟨Nat.zero_le _, hm1⟩ ?_
            rintro ⟨i, a, b, c, m⟩ ⟨hi, hm⟩
            simp only at hi hm ⊢
            refine aw_of ?_
            rcases Nat.lt_or_ge i (L.length + 1) with hli | hgi
            · have hV2 := Viable_spec n [] N (rn : Int) (L.take i) (.inl (by simp; omega)) (by simp; omega) _ 2 a b c (hA a b c m hm)
              have hil : (L.take i).length = i := by rw [List.length_take]; omega
              rw [hil, hz2 rfl i (by omega), if_pos rfl, Int.toNat_natCast, hmin i (by omega)] at hV2
              have hsl := sliceIt L (k := i) (by omega)
              have hmc : (if (K : Int) < (i : Int) then (K : Int) else (i : Int)) = ((min i K : Nat) : Int) := by split <;> omega
              simp -implicitDefEqProofs (disch := omega) only [Xzz, Yzy, Dzz, ↓reduceIte, reduceCtorEq, Nat.reduceLT, Nat.reduceEqDiff, Nat.reduceAdd, Nat.reduceLeDiff, Nat.reducePow, Nat.reduceMul, tyW, Azz, hsl]
              refine CallK_of call9 hV2 ?_
              rintro r h' ⟨rfl, a2, b2, c2, m2, hm2, rfl⟩
              have hm2 : m ≤ m2 := hm2
              simp -implicitDefEqProofs (disch := omega) only [Xzz, Yzy, Dzz, ↓reduceIte, reduceCtorEq, Nat.reduceLT, Nat.reduceEqDiff, Nat.reduceAdd, Nat.reduceLeDiff, Nat.reducePow, Nat.reduceMul, tyW, Azz, hmc]
              exact ⟨(i + 1, a2, b2, c2, m2), ⟨by show i + 1 ≤ _; omega, by show 3 ≤ m2; omega⟩, by show L.length + 1 - (i + 1) < _; omega, wk_lk (by simp [lk]) (fun _ _ q => q) (fun _ _ q => q) rfl rfl⟩
            · have hie : i = L.length + 1 := by omega
              subst hie
              simp -implicitDefEqProofs (disch := omega) only [Xzz, Yzy, Dzz, ↓reduceIte, reduceCtorEq, Nat.reduceLT, Nat.reduceEqDiff, Nat.reduceAdd, Nat.reduceLeDiff, Nat.reducePow, Nat.reduceMul, tyW, Azz]
              obtain ⟨p, hp'⟩ : ∃ p : Nat → Bool, (fun t => viaV n [] rn (L ++ [itN t (L.length : Int) 0])) = p := ⟨_, rfl⟩
              have hpt : ∀ t, viaV n [] rn (L ++ [itN t (L.length : Int) 0]) = p t := fun t => by rw [← hp']
              obtain ⟨NX, hNX⟩ : ∃ l, nextL n [] rn L (L.length : Int) 0 (n.types.length + 1) = l := ⟨_, rfl⟩
              have hNX2 : (List.range (n.types.length + 1)).filter p = NX := by rw [← hNX, ← hp']; rfl
              have hNl : NX.length ≤ 1000000001 := by
                rw [← hNX]
                have := nextL_len n [] rn L (L.length : Int) 0 (n.types.length + 1)
                omega
              obtain ⟨cnt, hcnt⟩ : ∃ cnt : Nat → Nat, (fun t => ((List.range t).filter p).length) = cnt := ⟨_, rfl⟩
              have hc0 : cnt 0 = 0 := by rw [← hcnt]; rfl
              have hcE : cnt (n.types.length + 1) = NX.length := by rw [← hcnt, ← hNX2]
              have hcs : ∀ t, cnt (t + 1) = if p t then cnt t + 1 else cnt t := fun t => by
                rw [← hcnt]
                simp only [List.range_succ, List.filter_append, List.length_append]
                cases h : p t <;> simp [h]
              have hcl : ∀ t, cnt t ≤ t := fun t => by
                rw [← hcnt]
                have := List.length_filter_le p (List.range t)
                simpa using this
              have hat : ∀ t, t < n.types.length + 1 → (decide (cnt t < NX.length) && decide (NX.getD (cnt t) default = t)) = p t := fun t ht => by
                rw [← hcnt, ← hNX2]; exact filt_at p ht
              refine CallK_of call10 (hX _ 2 _ _ _ (hA _ _ _ _ hm)) ?_
              rintro r h' ⟨⟨f, rfl⟩, a2, b2, c2, m2, hm2, rfl⟩
              have hm2 : m ≤ m2 := hm2
              simp -implicitDefEqProofs (disch := omega) only [Xzz, Yzy, Dzz, ↓reduceIte, reduceCtorEq, Nat.reduceLT, Nat.reduceEqDiff, Nat.reduceAdd, Nat.reduceLeDiff, Nat.reducePow, Nat.reduceMul, tyW, Azz, if_true, hNX]
              refine aw_measA (fun x : Nat × AV × AV × AV × Nat => ⟨[(16, .lit (.int .i64 (x.1 : Int))), (15, .lit (.int .i64 (cnt x.1 : Int))), (13, .vec (NX.map rowI) f), (7, .ptr 2 0), (1, .lit (.int .i64 (rn : Int))), (2, .vec (L.map encI) false), (3, .ptr 0 0)], ⟨[(0, [.vec (n.types.map encB) false, .vec (n.channels.map encB) false, .vec (n.modes.map encB) false, .vec (n.rules.map encNr) false, .vec (n.states.map encSt) false]), (2, askX n [] x.2.1 x.2.2.1 x.2.2.2.1)], [], x.2.2.2.2⟩, 157⟩) (fun x => x.1 ≤ n.types.length + 1 ∧ 3 ≤ x.2.2.2.2) (fun x => n.types.length + 1 - x.1)
                (0, a2, b2, c2, m2) (wk_lk (by simp [lk, hc0]) (fun _ _ q => q) (fun _ _ q => q) rfl rfl) ⟨Nat.zero_le _, by show 3 ≤ m2; omega⟩ ?_
              rintro ⟨t, a, b, c, m⟩ ⟨ht, hm⟩
              simp only at ht hm ⊢
              rcases Nat.lt_or_ge t (n.types.length + 1) with hlt | hgt
              · refine aw_seq ?_
                refine aw_of ?_
                simp -implicitDefEqProofs (disch := omega) only [Xzz, Yzy, Dzz, ↓reduceIte, reduceCtorEq, Nat.reduceLT, Nat.reduceEqDiff, Nat.reduceAdd, Nat.reduceLeDiff, Nat.reducePow, Nat.reduceMul, tyW, Azz]
                refine aw_seq ?_
                refine aw_block' ?_
                refine aw_seq ?_
                refine aw_of ?_
                simp -implicitDefEqProofs (disch := omega) only [Xzz, Yzy, Dzz, ↓reduceIte, reduceCtorEq, Nat.reduceLT, Nat.reduceEqDiff, Nat.reduceAdd, Nat.reduceLeDiff, Nat.reducePow, Nat.reduceMul, tyW, Azz]
                refine aw_seq_cut (fun σ2 => σ2 = ⟨[(17, .own m (L.length + 1)), (16, .lit (.int .i64 (t : Int))), (15, .lit (.int .i64 (cnt t : Int))), (13, .vec (NX.map rowI) f), (7, .ptr 2 0), (1, .lit (.int .i64 (rn : Int))), (2, .vec (L.map encI) false), (3, .ptr 0 0)], ⟨[(0, [.vec (n.types.map encB) false, .vec (n.channels.map encB) false, .vec (n.modes.map encB) false, .vec (n.rules.map encNr) false, .vec (n.states.map encSt) false]), (2, askX n [] a b c)], [(m, ⟨(L ++ [itN t (L.length : Int) 0]).map encI, 0, 5⟩)], m + 1⟩, 157⟩) ?_ ?_
                · refine aw_of ?_
                  have hf1 : fits (L.length + 1) 40 := fits_of' (by omega) (by omega)
                  have hf2 : fits L.length 40 := fits_of' (by omega) (by omega)
                  have hq2 : (∀ q : List AV, q ∈ L.map encI → q.length = 5) = True := eq_true (encI_len L)
                  have hrow : L.map encI ++ [[.lit (.int .i64 (t : Int)), .lit (.int .i64 (L.length : Int)), .lit (.int .i64 0), .lit (.bool false), .lit (.int .i64 0)]] = (L ++ [itN t (L.length : Int) 0]).map encI := by simp [itN, encI]
                  by_cases hl0 : L.length = 0
                  · have hL0 : L = [] := List.length_eq_zero_iff.1 hl0
                    subst hL0
                    have hf3 : fits 1 40 := by decide
                    simp -implicitDefEqProofs (disch := omega) only [Xzz, Yzy, Dzz, ↓reduceIte, reduceCtorEq, Nat.reduceLT, Nat.reduceEqDiff, Nat.reduceAdd, Nat.reduceLeDiff, Nat.reducePow, Nat.reduceMul, tyW, Azz, hf3, List.map_nil, List.mem_singleton, forall_eq, List.not_mem_nil, false_imp_iff, implies_true, if_true, List.length_cons, List.length_nil]
                    refine ⟨_, ?_, rfl⟩
                    exact wk_lk (by simp [lk]) (fun _ _ q => q) (fun _ _ q => q) rfl rfl
                  · simp -implicitDefEqProofs (disch := omega) only [Xzz, Yzy, Dzz, ↓reduceIte, reduceCtorEq, Nat.reduceLT, Nat.reduceEqDiff, Nat.reduceAdd, Nat.reduceLeDiff, Nat.reducePow, Nat.reduceMul, tyW, Azz, hf1, hf2, hq2, hrow, List.mem_singleton, forall_eq, List.not_mem_nil, false_imp_iff, implies_true, if_true, List.length_cons, List.length_nil, List.length_map]
                    refine ⟨_, ?_, rfl⟩
                    exact wk_lk (by simp [lk]) (fun _ _ q => q) (fun _ _ q => q) rfl rfl
                · rintro σ2 rfl
                  obtain ⟨al, hal⟩ : ∃ al, L ++ [itN t (L.length : Int) 0] = al := ⟨_, rfl⟩
                  have hall : al.length = L.length + 1 := by rw [← hal]; simp
                  have hpa : viaV n [] rn al = p t := by rw [← hal]; exact hpt t
                  rw [hal]
                  have hV3 := Viable_spec n [] N (rn : Int) al (.inl (by omega)) (by omega) ⟨[(0, [.vec (n.types.map encB) false, .vec (n.channels.map encB) false, .vec (n.modes.map encB) false, .vec (n.rules.map encNr) false, .vec (n.states.map encSt) false]), (2, askX n [] a b c)], [(m, ⟨al.map encI, al.length, 5⟩)], m + 1⟩ 2 a b c ⟨rfl, fun i hi => lk_lt (N := 3) (by simp) (by have hi : m + 1 ≤ i := hi; omega), fun i hi => lk_lt (N := m + 1) (by simp) hi, by simp only [lk]; rw [if_neg (by omega)]⟩
                  rw [hall, hz2 rfl (L.length + 1) (by omega), if_pos rfl, Int.toNat_natCast] at hV3
                  have hva := viaN_all (n := n) (o := []) (rn := rn) (A := al) (k := L.length) hall
                  obtain ⟨v, hv⟩ : ∃ v, viaN n [] rn al (L.length + 1) = v := ⟨_, rfl⟩
                  rw [hv] at hV3 hva
                  rw [hpa] at hva
                  have hml : (al.map encI).length = L.length + 1 := by rw [List.length_map, hall]
                  refine aw_of ?_
                  simp -implicitDefEqProofs (disch := omega) only [Xzz, Yzy, Dzz, ↓reduceIte, reduceCtorEq, Nat.reduceLT, Nat.reduceEqDiff, Nat.reduceAdd, Nat.reduceLeDiff, Nat.reducePow, Nat.reduceMul, tyW, Azz]
                  refine CallK.freeze (t := m) (k := ⟨al.map encI, 0, 5⟩) (args1 := [.ptr 2 0, .lit (.int .i64 (rn : Int)), .vec (al.map encI) false]) (by simp [lk]) (fun g g' e c => cvL_cons (cv_refl e _) (cvL_cons (cv_refl e _) (cvL_cons (by rw [hml] at c; exact c) cvL_nil))) ?_
                  have hup : ∀ k : Tk, up [(m, k)] m ⟨al.map encI, (al.map encI).length, 5⟩ = [(m, ⟨al.map encI, L.length + 1, 5⟩)] := fun k => by simp [up, hml]
                  simp -implicitDefEqProofs (disch := omega) only [hup]
                  refine CallK_of call9 hV3 ?_
                  rintro r h' ⟨rfl, a3, b3, c3, m3, hm3, rfl⟩
                  have hm3 : m + 1 ≤ m3 := hm3
                  have hatt := hat t hlt
                  have hcst := hcs t
                  have hct := hcl t
                  cases hpv : p t with
                  | true =>
                    rw [hpv] at hva hatt hcst
                    simp only [if_true] at hcst
                    simp only [Bool.and_eq_true, decide_eq_true_eq] at hatt
                    obtain ⟨y1, y2⟩ := hatt
                    have hv1 : v = L.length + 1 := hva.2 rfl
                    subst hv1
                    simp -implicitDefEqProofs (disch := omega) only [Xzz, Yzy, Dzz, ↓reduceIte, reduceCtorEq, Nat.reduceLT, Nat.reduceEqDiff, Nat.reduceAdd, Nat.reduceLeDiff, Nat.reducePow, Nat.reduceMul, tyW, Azz, rowI, y2, beq_self_eq_true, Bool.not_true]
                    refine aw_of ?_
                    simp -implicitDefEqProofs (disch := omega) only [Xzz, Yzy, Dzz, ↓reduceIte, reduceCtorEq, Nat.reduceLT, Nat.reduceEqDiff, Nat.reduceAdd, Nat.reduceLeDiff, Nat.reducePow, Nat.reduceMul, tyW, Azz]
                    refine ⟨(t + 1, a3, b3, c3, m3), ⟨by show t + 1 ≤ _; omega, by show 3 ≤ m3; omega⟩, by show n.types.length + 1 - (t + 1) < _; omega, ?_⟩
                    simp only
                    rw [hcst]
                    exact wk_lk (by simp [lk]) (fun _ _ q => q) (fun _ _ q => by cases q) rfl rfl
                  | false =>
                    rw [hpv] at hva hatt hcst
                    simp only [Bool.false_eq_true, if_false] at hcst
                    have hv1 : v ≠ L.length + 1 := fun q => by have := hva.1 q; cases this
                    by_cases hcl2 : cnt t < NX.length
                    · rw [decide_eq_true hcl2, Bool.true_and, decide_eq_false_iff_not] at hatt
                      obtain ⟨yy, hyy⟩ : ∃ yy, NX.getD (cnt t) default = yy := ⟨_, rfl⟩
                      rw [hyy] at hatt
                      have hy3 : ((yy : Int) == (t : Int)) = false := by simp; omega
                      simp -implicitDefEqProofs (disch := omega) only [Xzz, Yzy, Dzz, ↓reduceIte, reduceCtorEq, Nat.reduceLT, Nat.reduceEqDiff, Nat.reduceAdd, Nat.reduceLeDiff, Nat.reducePow, Nat.reduceMul, tyW, Azz, rowI, hyy, hy3, beq_self_eq_true, Bool.not_true]
                      refine aw_of ?_
                      simp -implicitDefEqProofs (disch := omega) only [Xzz, Yzy, Dzz, ↓reduceIte, reduceCtorEq, Nat.reduceLT, Nat.reduceEqDiff, Nat.reduceAdd, Nat.reduceLeDiff, Nat.reducePow, Nat.reduceMul, tyW, Azz]
                      refine ⟨(t + 1, a3, b3, c3, m3), ⟨by show t + 1 ≤ _; omega, by show 3 ≤ m3; omega⟩, by show n.types.length + 1 - (t + 1) < _; omega, ?_⟩
                      simp only
                      rw [hcst]
                      exact wk_lk (by simp [lk]) (fun _ _ q => q) (fun _ _ q => by cases q) rfl rfl
                    · simp -implicitDefEqProofs (disch := omega) only [Xzz, Yzy, Dzz, ↓reduceIte, reduceCtorEq, Nat.reduceLT, Nat.reduceEqDiff, Nat.reduceAdd, Nat.reduceLeDiff, Nat.reducePow, Nat.reduceMul, tyW, Azz, beq_self_eq_true, Bool.not_true]
                      refine aw_of ?_
                      simp -implicitDefEqProofs (disch := omega) only [Xzz, Yzy, Dzz, ↓reduceIte, reduceCtorEq, Nat.reduceLT, Nat.reduceEqDiff, Nat.reduceAdd, Nat.reduceLeDiff, Nat.reducePow, Nat.reduceMul, tyW, Azz]
                      refine ⟨(t + 1, a3, b3, c3, m3), ⟨by show t + 1 ≤ _; omega, by show 3 ≤ m3; omega⟩, by show n.types.length + 1 - (t + 1) < _; omega, ?_⟩
                      simp only
                      rw [hcst]
                      exact wk_lk (by simp [lk]) (fun _ _ q => q) (fun _ _ q => by cases q) rfl rfl
              · have hte : t = n.types.length + 1 := by omega
                subst hte
                refine aw_of ?_
                simp -implicitDefEqProofs (disch := omega) only [Xzz, Yzy, Dzz, ↓reduceIte, reduceCtorEq, Nat.reduceLT, Nat.reduceEqDiff, Nat.reduceAdd, Nat.reduceLeDiff, Nat.reducePow, Nat.reduceMul, tyW, Azz, hcE]
                refine CallK_k call7 wakes_spec alln (.lit _) ?_
                simp -implicitDefEqProofs (disch := omega) only [Xzz, Yzy, Dzz, ↓reduceIte, reduceCtorEq, Nat.reduceLT, Nat.reduceEqDiff, Nat.reduceAdd, Nat.reduceLeDiff, Nat.reducePow, Nat.reduceMul, tyW, Azz]
                exact ret _
          · have hne0 : (e == 0) = false := by simpa using h0
            simp -implicitDefEqProofs (disch := omega) only [Xzz, Yzy, Dzz, ↓reduceIte, reduceCtorEq, Nat.reduceLT, Nat.reduceEqDiff, Nat.reduceAdd, Nat.reduceLeDiff, Nat.reducePow, Nat.reduceMul, tyW, Azz, hne0, if_neg h0, Int.natCast_zero]
            refine CallK_k call7 wakes_spec alln (.lit _) ?_
            simp -implicitDefEqProofs (disch := omega) only [Xzz, Yzy, Dzz, ↓reduceIte, reduceCtorEq, Nat.reduceLT, Nat.reduceEqDiff, Nat.reduceAdd, Nat.reduceLeDiff, Nat.reducePow, Nat.reduceMul, tyW, Azz]
            exact ret _
end Go.Proofs.Ytbbnfbnicacdoaa
end
section
namespace Go.Proofs.Ytbbnfbnicacdoaa
open Go Go.Ab Go.RowKit Go.ChangeShapes
section
variable {H : Type} {enc : TypeId × Value → H} {P : Program}
theorem Keeps.below {W W' : World} (h : Keeps (fun _ => False) W W') : Below W.heap.size W W' := ⟨h.os, h.tape, h.output, h.size, fun b hb => h.block b hb (fun q => q)⟩
theorem trodAll_stays (hl : laidOutB P = true) {W W' : World} (hb : Below W.heap.size W W') {sp : Nat → Bool} : ∀ {ts : List TypeId} {vs : List Value} {ds : List (DataW H)} {ps : List MemPlace},
    (∀ t ∈ ts, P.readableRec t = true ∧ t < P.types.size) → DataW.TrodAll enc P W 0 (fun _ => true) true ts vs ds ps → (∀ p ∈ ps, p.block < W.heap.size ∧ sp p.block = true) → DataW.TrodAll enc P W' 0 sp true ts vs ds ps
  | [], vs, ds, ps, _, h, _ => by
    obtain ⟨rfl, rfl, rfl⟩ := trodAll_nil h
    exact trodAll_mk0
  | t :: ts, _, _, _, ht, h, hp => by
    obtain ⟨v, vs', d, ds', p, q, rfl, rfl, rfl, h1, h2⟩ := trodAll_cons h
    obtain ⟨hr, hrow⟩ := ht t (by simp)
    exact ⟨p, q, WideElems.Trod_stays hl hr hrow h1 (fun x hx => hb.same (hp x (by simp [hx])).1) (fun x hx => (hp x (by simp [hx])).2),
      trodAll_stays hl hb (fun t' h' => ht t' (by simp [h'])) h2 (fun x hx => hp x (by simp [hx])), rfl⟩
theorem law_post {f : Func} {s : ChangeSpec} {apart fresh handsOn again : Bool} {W W' : World} {args : Array Value} {ds gs : List (DataW H)} {before : List MemPlace} {tb : TypeId}
    (hW : DataW.Whole enc P f.params.toList s.vars apart W args.toList ds gs before) (hv : s.vars = []) (hs : s.fn H ds = { results := [.lit (.bool true)], args := ds })
    (hl : laidOutB P = true) (hp : (f.params.toList.all fun t => P.readableRec t && decide (t < P.types.size)) = true) (hres : f.resultTypes = #[tb]) (htb : P.underlying tb = some .bool)
    (hk : Keeps (fun _ => False) W W') : s.post enc P f apart fresh handsOn again W args (.bool true) W' := by
  have hb := Keeps.below hk
  have hlt := hW.lt
  have hW0 := hW
  have hpar : ∀ t ∈ f.params.toList, P.readableRec t = true ∧ t < P.types.size := fun t ht => by
    have := List.all_eq_true.1 hp t ht
    simpa using this
  obtain ⟨p, q, h1, h2, rfl, hz, hn⟩ := hW
  rw [hv] at h2
  obtain ⟨rfl, rfl⟩ := trodVars_none h2
  have hfn : s.fn H (ds ++ []) = { results := [.lit (.bool true)], args := ds } := by rw [List.append_nil]; exact hs
  have hr : ∀ (b : Nat) (sp : Nat → Bool) (hd : Bool), DataW.TrodAll enc P W' b sp hd f.resultTypes.toList ((Value.bool true).resultList f.resultTypes.size) [.lit (.bool true)] [] := fun b sp hd => by
    rw [hres]; exact trodAll_cons_mk (shut_bool htb true) trodAll_mk0
  have ha : ∀ sp : Nat → Bool, (∀ x ∈ p, sp x.block = true) → DataW.TrodAll enc P W' 0 sp true f.params.toList args.toList ds p := fun sp hsp =>
    trodAll_stays hl hb hpar h1 (fun x hx => ⟨hlt x (by simp [hx]), hsp x hx⟩)
  refine ⟨ds, [], p ++ [], [], p, [], hW0, ?_, ?_, ?_, hb.frame _, fun _ => ⟨?_, .lit (.bool true) :: ds, [], p ++ [], ?_, fun x hx _ => hx⟩⟩
  · rw [hfn]; exact hr _ _ _
  · rw [hfn]; exact ha _ (fun x hx => by simpa using hlt x (by simp [hx]))
  · rw [hfn, hv]; rfl
  · exact ok_one hres rfl (okWide_bool_mk htb true)
  · refine ⟨p, [], ?_, by rw [hv]; rfl, rfl, fun b off hx => ?_, fun hap => hn hap⟩
    · exact trodAll_append (p := []) (ha (fun _ => true) (fun _ _ => rfl)) (hr 0 (fun _ => true) true)
    · have hlt' := hlt _ hx
      exact (World.frozen?_of_block (w := W) (hb.block b hlt')).trans (hz b off hx)
end
end Go.Proofs.Ytbbnfbnicacdoaa
end
section
namespace Go.Proofs.Ytbbnfbnicacdoaa
open Go Go.Ab Go.RowKit Go.ChangeShapes
set_option linter.unusedSimpArgs false
set_option linter.unusedVariables false
set_option maxRecDepth 20000
theorem contractNxt (H : Type) (en : TypeId × Value → H) (W : World) (base : Nat) (args : Array Value) (ds gs : List (DataW H)) (before : List MemPlace)
    (hval : ∀ (j : Nat) t v, Try.f3.params[j]? = some t → args[j]? = some v → Value.okWide Try.prog W .any base t v)
    (hW : DataW.Whole en Try.prog Try.f3.params.toList Rows.endsNextSpec.vars false W args.toList ds gs before) (hk : Rows.uptoSmall H (ds ++ gs) = true) :
    Calls Try.prog 3 args W fun e W' => ∃ v, e = .returned v ∧ Rows.endsNextSpec.post en Try.prog Try.f3 false true false false W args v W' := by
  have hW' := hW
  obtain ⟨p, q, hA, hV, rfl, hfz, hnd⟩ := hW
  have hA : DataW.TrodAll en Try.prog W 0 (fun _ => true) true Try.f3.params.toList args.toList ds p := hA
  rw [Try.params3] at hA
  obtain ⟨v0, vs0, d0, ds0, p0, q0, hargs, rfl, rfl, ⟨n0, h0⟩, r0⟩ := trodAll_cons hA
  obtain ⟨v1, vs1, d1, ds1, p1, q1, rfl, rfl, rfl, _, r1⟩ := trodAll_cons r0
  obtain ⟨v2, vs2, d2, ds2, p2, q2, rfl, rfl, rfl, ⟨n2, h2⟩, r2⟩ := trodAll_cons r1
  obtain ⟨rfl, rfl, rfl⟩ := trodAll_nil r2
  obtain rfl : args = #[v0, v1, v2] := Array.toList_inj.1 hargs
  obtain ⟨rfl, rfl⟩ := trodVars_none hV
  obtain ⟨k0, av0, l0, t, rfl, b0, c0'⟩ := rs_nt n0 _ _ _ h0
  obtain ⟨z, rfl⟩ := Go.WideShapes.okWide_int (k := .i64) (by kernel_rfl) (hval 1 3 v1 (by kernel_rfl) rfl)
  obtain ⟨k2, av2, l2, x, rfl, b2⟩ := rd_items n2 _ _ _ h2
  obtain ⟨sa, sl, sc, rfl⟩ := Go.WideShapes.okWide_slice (e := 41) (by kernel_rfl) (hval 2 27 v2 (by kernel_rfl) rfl)
  have hrep2 : Rep (gm (memOf W)) (.slice sa sl sc) (.vec (x.map encI) false) := l2.2 0 _ _ rfl rfl
  have h : Rows.uptoBulkAll [d0, d1, d2] ≤ 1048576 := of_decide_eq_true hk
  simp only [Rows.uptoBulkAll] at h
  have ok : NtOk t := ntOk_of (by omega) c0'
  have e0 : (encN t).length = 5 := rfl
  have g0 := l0.1
  rw [e0] at g0
  obtain ⟨cs0, rfl⟩ : ∃ cs, v0 = .agg cs := by
    cases v0 <;> simp [Value.cells] at g0
    exact ⟨_, rfl⟩
  have hrep0 : Rep (gm (memOf W)) (.agg cs0) (.agg (encN t)) := .agg k0 l0.1 l0.2
  have hc : PCall Try.prog 3 [.agg (encN t), .lit (.int .i64 z), .vec (x.map encI) false] (.lit (.bool true)) :=
    PCall_of_SCall (SCall.mono (next_spec t z x ok (by omega)) fun r' h' e => by obtain ⟨e1, e2⟩ := e; subst e1; subst e2; exact expo_pure (.lit _))
  refine (hc (memOf W) W #[.agg cs0, .int .i64 z, .slice sa sl sc] (memOk_of W) (.cons hrep0 (.cons (.lit rfl) (.cons hrep2 .nil)))).mono fun e W' hh => ?_
  obtain ⟨v, m', rfl, hv, _, hkeep, _, _⟩ := hh
  cases hv
  exact ⟨_, rfl, law_post hW' rfl rfl (by kernel_rfl) (by kernel_rfl) (by kernel_rfl) (tb := 4) (by kernel_rfl) hkeep⟩
theorem ownNxt : ownKnob Try.prog.godebug = none := by kernel_rfl
set_option maxRecDepth 100000 in
theorem liftedNxt (os : Os) (started : os.Started) (H : Type) (en : TypeId × Value → H) (F : Stop.Interp) :
    ReturnsInHanded {} Try.checked os 3 .any ((Rows.OpenSpec.upto Rows.endsNextSpec).pre6 en Try.prog Try.f3 Rows.endsNextUptoRow.domain false) (((Rows.OpenSpec.upto Rows.endsNextSpec).at F).post en Try.prog Try.f3 false true false false) := by
  refine returnsInHanded_of_cond (C := Try.checked) (s := Rows.OpenSpec.upto Rows.endsNextSpec) (k := Rows.uptoSmall) rfl ownNxt started (by kernel_rfl) Try.func3
    (OpenSpec.witness (enc := en) (C := Try.checked) (s := Rows.OpenSpec.upto Rows.endsNextSpec) (k := Rows.uptoSmall) rfl false ⟨#[], #[.agg #[.slice none 0 0, .slice none 0 0, .slice none 0 0, .slice none 0 0, .slice none 0 0], .int .i64 0, .slice none 0 0], []⟩ 8 (by kernel_rfl) (by kernel_rfl) (by kernel_rfl)
      (x := ([.agg [.nil, .nil, .nil, .nil, .nil], .lit (.int .i64 0), .nil], [], [])) (by kernel_rfl) rfl (by kernel_rfl)) ?_
  intro W base args ds gs before hval hW _ hk _
  exact contractNxt H en W base args ds gs before hval hW hk
theorem endsNext_proved : Rows.EndsNextUptoSaid :=
  OpenClaim.holds_of_cond 3 Try.f3 rfl rfl rfl rfl rfl rfl rfl ⟨rfl, rfl, rfl, rfl, rfl⟩ rfl rfl rfl rfl rfl (by kernel_rfl) Try.func3 (by kernel_rfl)
    (of_decide_eq_true (by kernel_rfl)) (by unfold Func.isWrapper; first | (rw [if_pos (by decide +kernel)]; kernel_rfl) | (rw [if_neg (by decide +kernel)]; exact ⟨rfl, rfl⟩))
    (fun os started H en _ F => liftedNxt os started H en F)
#print axioms endsNext_proved
end Go.Proofs.Ytbbnfbnicacdoaa
end
