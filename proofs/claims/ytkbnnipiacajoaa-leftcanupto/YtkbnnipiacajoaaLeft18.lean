/- Contracts in any heap: the document's last and Begins, of an element that is owned. Conditions: those that each theorem names. -/
import Derived.Test.YtkbnnipiacajoaaLeft11
import Derived.Test.YtkbnnipiacajoaaDrawF
namespace Go.Proofs.Ytkbnnipiacajoaa
open Go.Ab
set_option linter.unusedSimpArgs false
set_option linter.unusedVariables false
set_option maxRecDepth 20000

theorem cv_lit {g g' : Gh} (v : Value) : Cv g g' (.lit v) (.lit v) := fun u h => by cases h with | lit h => exact .lit h
theorem cv_no {g g' : Gh} {f f' : Bool} : Cv g g' (.vec [] f) (.vec [] false) := fun u h => by
  cases h with
  | vecN => exact .vecN
  | vecE _ => exact .vecE (fun q => by cases q)
  | vec f h1 h2 h3 h4 h5 => exact .vec (s := 0) f alln (fun q => by cases q) h3 (fun i x j a e => by cases e) (fun i x j a e => by cases e)
theorem cv_dead {g g' : Gh} {xs : List (List AV)} {f : Bool} {t : Nat} (h : t < g'.nx) (k : g'.tok t = none) : Cv g g' (.vec xs f) (.own t xs.length) := fun u hu => by
  cases hu with
  | vecN => exact Rep.any_own h k
  | vecE _ => exact Rep.any_own h k
  | vec f h1 h2 h3 h4 h5 => exact Rep.any_own h k
theorem cv_tup {g g' : Gh} {av bs : List AV} (h : CvL g g' av bs) : Cv g g' (.tup av) (.tup bs) := fun v hv => by
  cases hv with
  | tup h1 h2 => exact .tup (h _ ⟨h1, h2⟩).1 (h _ ⟨h1, h2⟩).2
theorem begX_op (s : ByteArray) (e : El) : ∃ op kids, begX s e = opE op kids 0 := by
  rcases e with ⟨op, name, set, lz, g, kids, level, place⟩
  simp only [begX]
  split
  · exact ⟨_, _, rfl⟩
  · split <;> exact ⟨_, _, rfl⟩

theorem begins_at (s : ByteArray) (e : El) (he : esz e ≤ 1000000000) {H : Hp} {T : Nat} (hk : e.kids ≠ [] → lk H.toks T = some ⟨e.kids.map encE, 0, 11⟩) :
    SCall Try.prog 45 [.agg (encK (grA T (e.kids.map encE)) e), .lit (.string s)] H (fun r h' => ∃ av, r = .tup [.agg av, .lit (.bool (begN s e))] ∧ av.length = 11 ∧ h' = ⟨H.boxes, H.toks, H.nx + 1⟩) := by
  have sp := spec45 s e he
  cases hkk : e.kids with
  | nil =>
    refine SCall.cv (args1 := [.agg (encE e), .lit (.string s)]) (fun g => cvL_cons (cv_agg ?_) (cvL_same cvL_nil)) ?_
    · rw [← encK_vec e, hkk]; exact cvL_encK (.refl g) e (cv_full (.refl g) _ _)
    · refine (SCall_pure sp (by simp [Pure.lit]; exact pureE e) (.tup (by simp [Pure.lit]; exact pureE _)) H).told ?_
      rintro r h' ⟨rfl, rfl⟩
      exact ⟨_, _, St.wk.cp St.wk_skip, _, rfl, encE_length _, rfl⟩
  | cons x l =>
    rw [hkk] at hk
    obtain ⟨op, kids, hX⟩ := begX_op s e
    rw [hX] at sp
    refine (SCall_thaw (r' := .tup [.agg (encK (.own H.nx (kids.map encE).length) (opE op kids 0)), .lit (.bool (begN s e))]) (hk (by simp)) sp (by simp [Pure.lit]; exact pureE e) ?_ ?_).mono ?_
    · intro g g' x' c
      refine cvL_cons (cv_agg ?_) (cvL_cons (cv_refl x' _) cvL_nil)
      rw [← encK_vec e, hkk]
      exact cvL_encK x' e (by simpa [grA] using c)
    · intro m g v h1 h2 hv
      refine cv_tup (cvL_cons (cv_agg ?_) (cvL_cons (cv_lit _) cvL_nil)) v hv
      rw [encE_op]
      simp only [encK, opE, List.map_nil]
      exact cvL_cons (cv_lit _) (cvL_cons (cv_lit _) (cvL_cons (cv_no (f' := false)) (cvL_cons (cv_lit _) (cvL_cons (cv_lit _) (cvL_cons (cv_lit _) (cvL_cons (cv_lit _) (cvL_cons (cv_no (f' := false)) (cvL_cons (cv_dead h1 h2) (cvL_cons (cv_lit _) (cvL_cons (cv_lit _) cvL_nil))))))))))
    · rintro r h' ⟨rfl, rfl⟩
      exact ⟨_, rfl, by rcases (opE op kids 0) with ⟨a, b, c, d, ⟨x, y, z, u⟩, f, g, h⟩; rfl, rfl⟩

/-- last, with a row that stays from then on. -/
theorem rLastF (s : ByteArray) (lvl : Int) (e : El) (he : esz e ≤ 1000000000) : SCall Try.prog 47 [.agg (encK (grA 0 (e.kids.map encE)) e), .lit (.string s), .lit (.int .i64 lvl)] (isQ e.kids)
    (fun r h' => r = .agg (encE (lastE s lvl e)) ∧ h' = ⟨[], [], grN 0 (e.kids.map encE)⟩) := by
  refine (rLast_spec s lvl e he).told ?_
  rintro r h' ⟨rfl, rfl⟩
  refine ⟨_, _, ?_, rfl, rfl⟩
  have hl := lastE_kids s lvl e
  rw [← encK_vec (lastE s lvl e)]
  have hN : grN 0 (e.kids.map encE) = grN 0 ((lastE s lvl e).kids.map encE) := by
    cases h1 : e.kids with
    | nil =>
      rw [h1] at hl
      rw [List.length_eq_zero_iff.1 hl]
    | cons a l =>
      rw [h1] at hl
      cases h2 : (lastE s lvl e).kids with
      | nil => rw [h2] at hl; simp at hl
      | cons b m => rfl
  rw [hN]
  cases hk : (lastE s lvl e).kids with
  | nil => exact St.wk.cp (St.wk_conv rfl rfl (fun g1 g2 x => allc ⟨_, rfl, cv_agg (cvL_encK x _ (cv_full x _ _))⟩ alln) (fun g1 g2 x => alln) (fun g1 => alln))
  | cons x l =>
    exact St.wk.cp (St.wk_freeze (t := 0) (k := ⟨(x :: l).map encE, 0, 11⟩) rfl rfl rfl (fun g1 g2 x c => allc ⟨_, rfl, cv_agg (cvL_encK x _ (by simpa [grA] using c))⟩ alln) (fun g1 g2 x c => alln) (fun g1 => alln))
/-- In any heap. -/
theorem rLast_at (s : ByteArray) (lvl : Int) (e : El) (he : esz e ≤ 1000000000) {B : List (Nat × List AV)} {L : List (Nat × Tk)} {T n : Nat} (hT : T < n) (h1 : lk L T = none) :
    SCall Try.prog 47 [.agg (encK (grA T (e.kids.map encE)) e), .lit (.string s), .lit (.int .i64 lvl)] ⟨B, L ++ grT T 11 (e.kids.map encE), n⟩ (fun r h' => r = .agg (encE (lastE s lvl e)) ∧ h' = ⟨B, L, n⟩) := by
  have hx : (isQ e.kids).nx ≤ 1 := by simp only [isQ]; cases e.kids <;> simp [grN]
  have hle : ∀ i, i < (isQ e.kids).nx → i < [T].length := fun i hi => by simp; omega
  have hr1 : ∀ rows : List (List AV), rows ≠ [] → 0 < grN 0 rows := fun rows h => by cases rows with | nil => exact absurd rfl h | cons => exact Nat.lt_succ_self 0
  refine SCall.sub (hs := isQ e.kids) (rho [T]) (fun i j hi hj q => rho_inj (by simp) i j (hle i hi) (hle j hj) q) (fun i hi => rho_lt (by simp; exact hT) i (hle i hi))
    (.cons (.agg (rnL_encK e (rn_gr fun h => ⟨hr1 _ h, rfl⟩))) (.cons (.pure (.lit _)) (.cons (.pure (.lit _)) .nil))) alln (fun p hp => ?_) (rLastF s lvl e he) ?_
  · have hp : p ∈ grT 0 11 (e.kids.map encE) := hp
    cases hk : e.kids with
    | nil => rw [hk] at hp; cases hp
    | cons x l =>
      rw [hk] at hp
      have hp : p = (0, ⟨(x :: l).map encE, 0, 11⟩) := by simpa [grT] using hp
      subst hp
      refine ⟨Nat.lt_succ_self 0, ⟨(x :: l).map encE, 0, 11⟩, ?_, rfl, rfl, .pure (pure_rows pure_encE _)⟩
      show lk (L ++ grT T 11 _) T = _
      rw [lk_app, h1, Option.none_or]
      exact lk_grT' (by simp)
  · rintro r h' ⟨rfl, rfl⟩ _
    refine ⟨_, ⟨B, L, n⟩, 0, Nat.le_refl _, rfl, .pure (pureE _), fun i cs' e' => .inr ⟨e', fun j c hj => by cases hj⟩, fun t k' e' => ?_, rfl, rfl⟩
    refine .inr ⟨by show lk (L ++ _) t = _; rw [lk_app, e']; rfl, fun i hi q => ?_⟩
    have hi := hle i hi
    have e' : lk L t = some k' := e'
    match i, hi, q with
    | 0, _, q => have : t = T := q.symm; rw [this, h1] at e'; cases e'
end Go.Proofs.Ytkbnnipiacajoaa
