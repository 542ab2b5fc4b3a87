/- Rows that grow: their values, tokens, how they are told otherwise (what stands in Left1, Left10, Left11, Left19 too, for seats that have not these). Conditions: those that each theorem names. -/
import Derived.Test.YtogdlomemaoajaaFind
namespace Go.Proofs.Ytogdlomemaoajaa
open Go.Ab
set_option linter.unusedSimpArgs false
set_option linter.unusedVariables false
set_option maxRecDepth 20000

/-- A row that is being made: none yet, or an owned one. -/
def grA (t : Nat) : List (List AV) → AV
  | [] => .vec [] true
  | _ :: l => .own t (l.length + 1)
def grT (t s : Nat) : List (List AV) → List (Nat × Tk)
  | [] => []
  | x :: l => [(t, ⟨x :: l, 0, s⟩)]
def grN (t : Nat) : List (List AV) → Nat
  | [] => t
  | _ :: _ => t + 1

theorem fits_of' {n b : Nat} (h : n ≤ 2000000000) (k : n * b ≤ 140737488355328) : fits n b := ⟨Nat.le_trans h (by decide), k⟩

theorem lk_app {α : Type} : ∀ (l m : List (Nat × α)) (i : Nat), lk (l ++ m) i = (lk l i).or (lk m i)
  | [], m, i => by simp [lk]
  | (j, x) :: l, m, i => by
    simp only [List.cons_append, lk]
    split
    · rfl
    · exact lk_app l m i
theorem lk_grT {t s : Nat} {rows : List (List AV)} {i : Nat} {k : Tk} (h : lk (grT t s rows) i = some k) : i = t ∧ k = ⟨rows, 0, s⟩ ∧ rows ≠ [] := by
  cases rows with
  | nil => cases h
  | cons x l =>
    simp only [grT, lk] at h
    split at h
    · rename_i q; cases h; exact ⟨q.symm, rfl, by simp⟩
    · cases h
theorem lk_grT' {t s : Nat} {rows : List (List AV)} (h : rows ≠ []) : lk (grT t s rows) t = some ⟨rows, 0, s⟩ := by
  cases rows with
  | nil => exact absurd rfl h
  | cons x l => simp [grT, lk]
theorem lk_grT_ne {t s : Nat} {rows : List (List AV)} {i : Nat} (h : i ≠ t) : lk (grT t s rows) i = none := by
  cases rows with
  | nil => rfl
  | cons x l => simp only [grT, lk]; rw [if_neg (Ne.symm h)]

theorem St.wk_skip {sl : List (Nat × AV)} {B : List (Nat × List AV)} {L : List (Nat × Tk)} {n k : Nat} : St.wk ⟨sl, ⟨B, L, n⟩, k⟩ ⟨sl, ⟨B, L, n + 1⟩, k⟩ :=
  fun g0 h0 w0 g w a r => ⟨g.skip 1, ⟨r.st.hp.skip, r.st.ext.trans (Ext.skip _ 1), r.st.keeps, fun b l => r.st.live b (by
    rcases l with ⟨i, cs, f1, f2⟩ | ⟨i, k1, c1, n1, f1, f2⟩
    · exact .inl ⟨i, cs, f1, f2⟩
    · exact .inr ⟨i, k1, c1, n1, f1, f2⟩), r.st.memo⟩, fun s v e => (by obtain ⟨u, e1, e2⟩ := r.slots s v e; exact ⟨u, e1, e2.mono (Ext.skip _ 1)⟩), r.nt, r.defers⟩

theorem rn_gr {ρ : Nat → Nat} {n t t' : Nat} {rows : List (List AV)} (h : rows ≠ [] → t < n ∧ ρ t = t') : Rn ρ n (grA t rows) (grA t' rows) := by
  cases rows with
  | nil => exact .pure (.vec (by simp))
  | cons x l => obtain ⟨h1, h2⟩ := h (by simp); exact .own h1 h2

theorem grA_nil {t : Nat} : grA t [] = .vec [] true := rfl
theorem grA_cons {t : Nat} {x : List AV} {l : List (List AV)} : grA t (x :: l) = .own t (l.length + 1) := rfl
theorem grT_nil {t s : Nat} : grT t s [] = [] := rfl
theorem grT_cons {t s : Nat} {x : List AV} {l : List (List AV)} : grT t s (x :: l) = [(t, ⟨x :: l, 0, s⟩)] := rfl
theorem mem_grT {t s : Nat} {rows : List (List AV)} {p : Nat × Tk} (h : p ∈ grT t s rows) : p = (t, ⟨rows, 0, s⟩) ∧ rows ≠ [] := by
  cases rows with
  | nil => cases h
  | cons x l => simp only [grT, List.mem_singleton] at h; exact ⟨h, by simp⟩
theorem expo_gr2 {h : Hp} {t s : Nat} {rows : List (List AV)} (hp : ∀ x ∈ rows, ∀ c ∈ x, Ab.Pure c) (ht : rows ≠ [] → lk h.toks t = some ⟨rows, 0, s⟩) : Expo h (grA t rows) (.vec rows false) := by
  cases rows with
  | nil => exact expo_full (by simp)
  | cons x l => exact expo_own (ht (by simp)) rfl hp
theorem St.wk_slots1 {σ : St} {sl : List (Nat × AV)} {bx : List (Nat × List AV)} {tk : List (Nat × Tk)} (hs : ∀ p ∈ sl, lk σ.slots p.1 = some p.2) (hb : ∀ p ∈ bx, lk σ.hp.boxes p.1 = some p.2) (ht : ∀ t, lk σ.hp.toks t = lk tk t) :
    St.wk σ ⟨sl, ⟨bx, tk, σ.hp.nx⟩, σ.nt⟩ :=
  fun g0 h0 w0 g w a r => ⟨g, ⟨r.st.less rfl (fun i c e => hb _ (lk_mem e)) (fun i c e => (ht i).trans e), fun s v e => r.slots s v (hs _ (lk_mem e)), r.nt, r.defers⟩⟩
end Go.Proofs.Ytogdlomemaoajaa
