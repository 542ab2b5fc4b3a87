/- Contracts of copies, of last and of Begins in any heap. Conditions: those that each theorem names. -/
import Derived.Test.YtkbnnipiacajoaaLeft9
import Derived.Test.YtkbnnipiacajoaaThaw
namespace Go.Proofs.Ytkbnnipiacajoaa
open Go.Ab
set_option linter.unusedSimpArgs false
set_option linter.unusedVariables false
set_option maxRecDepth 20000

theorem lk_app {α : Type} : ∀ (l m : List (Nat × α)) (i : Nat), lk (l ++ m) i = (lk l i).or (lk m i)
  | [], m, i => by simp [lk]
  | (j, x) :: l, m, i => by
    simp only [List.cons_append, lk]
    split
    · rfl
    · exact lk_app l m i
theorem lk_grT {t s : Nat} {rows : List (List AV)} {i : Nat} {k : Tk} (h : lk (grT t s rows) i = some k) : i = t ∧ k = ⟨rows, 0, s⟩ ∧ rows ≠ [] := by
  cases rows with
  | nil => cases h
  | cons x l =>
    simp only [grT, lk] at h
    split at h
    · rename_i q; cases h; exact ⟨q.symm, rfl, by simp⟩
    · cases h
theorem lk_grT' {t s : Nat} {rows : List (List AV)} (h : rows ≠ []) : lk (grT t s rows) t = some ⟨rows, 0, s⟩ := by
  cases rows with
  | nil => exact absurd rfl h
  | cons x l => simp [grT, lk]
theorem lk_grT_ne {t s : Nat} {rows : List (List AV)} {i : Nat} (h : i ≠ t) : lk (grT t s rows) i = none := by
  cases rows with
  | nil => rfl
  | cons x l => simp only [grT, lk]; rw [if_neg (Ne.symm h)]

theorem St.wk_skip {sl : List (Nat × AV)} {B : List (Nat × List AV)} {L : List (Nat × Tk)} {n k : Nat} : St.wk ⟨sl, ⟨B, L, n⟩, k⟩ ⟨sl, ⟨B, L, n + 1⟩, k⟩ :=
  fun g0 h0 w0 g w a r => ⟨g.skip 1, ⟨r.st.hp.skip, r.st.ext.trans (Ext.skip _ 1), r.st.keeps, fun b l => r.st.live b (by
    rcases l with ⟨i, cs, f1, f2⟩ | ⟨i, k1, c1, n1, f1, f2⟩
    · exact .inl ⟨i, cs, f1, f2⟩
    · exact .inr ⟨i, k1, c1, n1, f1, f2⟩), r.st.memo⟩, fun s v e => (by obtain ⟨u, e1, e2⟩ := r.slots s v e; exact ⟨u, e1, e2.mono (Ext.skip _ 1)⟩), r.nt, r.defers⟩

theorem rn_gr {ρ : Nat → Nat} {n t t' : Nat} {rows : List (List AV)} (h : rows ≠ [] → t < n ∧ ρ t = t') : Rn ρ n (grA t rows) (grA t' rows) := by
  cases rows with
  | nil => exact .pure (.vec (by simp))
  | cons x l => obtain ⟨h1, h2⟩ := h (by simp); exact .own h1 h2

/-- A copy, in any heap. -/
theorem own_at {f : Nat} {e : El} (hc : SCall Try.prog f [.agg (encE e)] .none (ownR e)) {B : List (Nat × List AV)} {L L' : List (Nat × Tk)} {n : Nat} (hL : ∀ t, lk L' t = lk L t) :
    SCall Try.prog f [.agg (encE e)] ⟨B, L, n⟩ (fun r h' => r = .agg (encK (grA n (ckr e)) (cpE e)) ∧ h' = ⟨B, L' ++ grT n 11 (ckr e), n + 1⟩) := by
  have h1 : SCall Try.prog f [.agg (encE e)] .none (fun r h' => r = .agg (encK (grA 0 (ckr e)) (cpE e)) ∧ h' = ⟨[], grT 0 11 (ckr e), 1⟩) := by
    refine (ownR_told hc).told ?_
    rintro r h' ⟨rfl, rfl⟩
    refine ⟨_, _, ?_, rfl, rfl⟩
    cases hk : ckr e with
    | nil => exact St.wk.cp St.wk_skip
    | cons x l => exact St.wk.cp (St.wk.refl _)
  refine SCall.sub (hs := .none) (fun i => i) (fun i j h1 => absurd h1 (Nat.not_lt_zero _)) (fun i h1 => absurd h1 (Nat.not_lt_zero _)) (.pure (by simp; exact pureE e)) (fun p hp => by cases hp) (fun p hp => by cases hp) h1 ?_
  rintro r h' ⟨rfl, rfl⟩ _
  refine ⟨_, ⟨B, L' ++ grT n 11 (ckr e), n + 1⟩, 1, Nat.le_refl _, rfl, .agg (rnL_encK _ (rn_gr (t' := n) fun _ => ⟨by show 0 < 0 + 1; decide, rfl⟩)), fun id cs' e' => .inr ⟨e', fun i c h1 => by cases h1⟩, fun id k' e' => ?_, rfl, rfl⟩
  simp only [lk_app] at e'
  cases h2 : lk L' id with
  | some k2 =>
    rw [h2] at e'
    simp only [Option.some_or, Option.some.injEq] at e'
    subst e'
    exact .inr ⟨by show lk L id = _; rw [← hL]; exact h2, fun i h3 => absurd h3 (Nat.not_lt_zero _)⟩
  | none =>
    rw [h2] at e'
    simp only [Option.none_or] at e'
    obtain ⟨rfl, rfl, h3⟩ := lk_grT e'
    exact .inl ⟨0, _, by show 0 < 0 + 1; decide, rfl, lk_grT' h3, rfl, rfl, .pure (pure_ckr e)⟩

/-- last, with a row that stays from then on. -/
theorem lastF (s : ByteArray) (A V lvl : Int) (e : El) (he : esz e ≤ 1000000000) : SCall Try.prog 33 [.ptr 0 2, .fn (.func 34) [.lit (.string s)] [], .lit (.int .i64 lvl)] (brH A V e e.kids)
    (fun r h' => r = .tup [] ∧ h' = ⟨[(0, .lit (.int .i64 A) :: .lit (.int .i64 V) :: encE (lastE s lvl e))], [], grN 1 (e.kids.map encE)⟩) := by
  refine (last_spec s A V lvl e he).told ?_
  rintro r h' ⟨rfl, rfl⟩
  refine ⟨_, _, ?_, rfl, rfl⟩
  have hl := lastE_kids s lvl e
  rw [← encK_vec (lastE s lvl e)]
  have hN : grN 1 (e.kids.map encE) = grN 1 ((lastE s lvl e).kids.map encE) := by
    cases h1 : e.kids with
    | nil =>
      rw [h1] at hl
      rw [List.length_eq_zero_iff.1 hl]
    | cons a l =>
      rw [h1] at hl
      cases h2 : (lastE s lvl e).kids with
      | nil => rw [h2] at hl; simp at hl
      | cons b m => rfl
  rw [hN]
  cases hk : (lastE s lvl e).kids with
  | nil => exact St.wk.cp (St.wk_conv rfl rfl (fun g1 g2 x => allc ⟨_, rfl, cv_refl x _⟩ alln) (fun g1 g2 x => allc ⟨_, rfl, cvL_cons (cv_refl x _) (cvL_cons (cv_refl x _) (cvL_encK x _ (cv_full x _ _)))⟩ alln) (fun g1 => alln))
  | cons x l =>
    exact St.wk.cp (St.wk_freeze (t := 1) (k := ⟨(x :: l).map encE, 0, 11⟩) rfl rfl rfl (fun g1 g2 x c => allc ⟨_, rfl, cv_refl x _⟩ alln) (fun g1 g2 x c => allc ⟨_, rfl, cvL_cons (cv_refl x _) (cvL_cons (cv_refl x _) (cvL_encK x _ (by simpa [grA] using c)))⟩ alln) (fun g1 => alln))
/-- In any heap. -/
theorem last_at (s : ByteArray) (A V lvl : Int) (e : El) (he : esz e ≤ 1000000000) {B : List (Nat × List AV)} {L : List (Nat × Tk)} {id T n : Nat} (hB : lk B id = some (.lit (.int .i64 A) :: .lit (.int .i64 V) :: encK (grA T (e.kids.map encE)) e))
    (hid : id < n) (hT : T < n) (hne : id ≠ T) (h1 : lk L T = none) (h2 : lk L id = none) :
    SCall Try.prog 33 [.ptr id 2, .fn (.func 34) [.lit (.string s)] [], .lit (.int .i64 lvl)] ⟨B, L ++ grT T 11 (e.kids.map encE), n⟩
      (fun r h' => r = .tup [] ∧ h' = ⟨up B id (.lit (.int .i64 A) :: .lit (.int .i64 V) :: encE (lastE s lvl e)), L, n⟩) := by
  have hx : (brH A V e e.kids).nx ≤ 2 := by simp only [brH]; cases e.kids <;> simp [grN]
  have hle : ∀ i, i < (brH A V e e.kids).nx → i < [id, T].length := fun i hi => by simp; omega
  have hr1 : ∀ rows : List (List AV), rows ≠ [] → 1 < grN 1 rows := fun rows h => by cases rows with | nil => exact absurd rfl h | cons => exact Nat.lt_succ_self 1
  have h0 : 0 < (brH A V e e.kids).nx := by simp only [brH]; cases e.kids <;> simp [grN]
  have hbx : ∀ i c, lk (brH A V e e.kids).boxes i = some c → i = 0 := fun i c h => by
    simp only [brH, lk] at h
    split at h
    · rename_i q; exact q.symm
    · cases h
  refine SCall.sub (hs := brH A V e e.kids) (rho [id, T]) (fun i j hi hj q => rho_inj (by simp; exact hne) i j (hle i hi) (hle j hj) q) (fun i hi => rho_lt (by simp; exact ⟨hid, hT⟩) i (hle i hi))
    (.cons (.ptr h0 rfl) (.cons (.pure (.fn (by simp; exact .lit _) (by simp))) (.cons (.pure (.lit _)) .nil)))
    (allc ⟨h0, _, hB, .cons (.pure (.lit _)) (.cons (.pure (.lit _)) (rnL_encK e (rn_gr fun h => ⟨hr1 _ h, rfl⟩)))⟩ alln) (fun p hp => ?_) (lastF s A V lvl e he) ?_
  · have hp : p ∈ grT 1 11 (e.kids.map encE) := hp
    cases hk : e.kids with
    | nil => rw [hk] at hp; cases hp
    | cons x l =>
      rw [hk] at hp
      have hp : p = (1, ⟨(x :: l).map encE, 0, 11⟩) := by simpa [grT] using hp
      subst hp
      refine ⟨Nat.lt_succ_self 1, ⟨(x :: l).map encE, 0, 11⟩, ?_, rfl, rfl, .pure (pure_rows pure_encE _)⟩
      show lk (L ++ grT T 11 _) T = _
      rw [lk_app, h1, Option.none_or]
      exact lk_grT' (by simp)
  · rintro r h' ⟨rfl, rfl⟩ _
    refine ⟨_, ⟨up B id (.lit (.int .i64 A) :: .lit (.int .i64 V) :: encE (lastE s lvl e)), L, n⟩, 0, Nat.le_refl _, rfl, .pure (.tup (by simp)), fun i cs' e' => ?_, fun t k' e' => ?_, rfl, rfl⟩
    · have e' : lk (up B id _) i = some cs' := e'
      rw [lk_up] at e'
      by_cases hi : id = i
      · subst hi
        simp only [if_true, hB, Option.map_some, Option.some.injEq] at e'
        subst e'
        exact .inl ⟨0, _, h0, by simp only [ren, h0, if_true]; rfl, rfl, .pure (by simp; exact ⟨.lit _, .lit _, pure_encE _⟩)⟩
      · rw [if_neg hi] at e'
        exact .inr ⟨e', fun j c hj => by rw [hbx j c hj]; exact hi⟩
    · refine .inr ⟨by show lk (L ++ _) t = _; rw [lk_app, e']; rfl, fun i hi q => ?_⟩
      have hi := hle i hi
      have e' : lk L t = some k' := e'
      match i, hi, q with
      | 0, _, q => have : t = id := q.symm; rw [this, h2] at e'; cases e'
      | 1, _, q => have : t = T := q.symm; rw [this, h1] at e'; cases e'
end Go.Proofs.Ytkbnnipiacajoaa
