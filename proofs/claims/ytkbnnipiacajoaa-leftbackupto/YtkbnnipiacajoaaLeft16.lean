/- A rule turned: each alternative is a prim or a step, once; a step with the first name ahead is its alternative again: the plain laws. Conditions: those that each theorem names. -/
import Derived.Test.YtkbnnipiacajoaaLeft14
namespace Go.Proofs.Ytkbnnipiacajoaa
open Go.Ab
set_option linter.unusedSimpArgs false
set_option linter.unusedVariables false
set_option maxRecDepth 20000

theorem turn_alt (r : Rl) (i : Nat) (a : Al) : (turn r i a).2.alt = (i : Int) + 1 := by
  unfold turn; split
  · split <;> rfl
  · rfl
theorem turns_at {r : Rl} {i : Nat} {x : Bool × Br} (h : (turns r)[i]? = some x) : ∃ a, r.alts[i]? = some a ∧ x = turn r i a := by
  simp only [turns, List.getElem?_mapIdx, Option.map_eq_some_iff] at h
  obtain ⟨a, h1, h2⟩ := h
  exact ⟨a, h1, h2.symm⟩
theorem turns_len (r : Rl) : (turns r).length = r.alts.length := by simp [turns]
theorem turns_pw (r : Rl) : (turns r).Pairwise fun x y => x.2.alt < y.2.alt := by
  rw [List.pairwise_iff_getElem]
  intro i j hi hj hij
  obtain ⟨a, _, h1⟩ := turns_at (List.getElem?_eq_getElem hi)
  obtain ⟨b, _, h2⟩ := turns_at (List.getElem?_eq_getElem hj)
  rw [h1, h2, turn_alt, turn_alt]; omega
/-- All of a kind. -/
def brA (r : Rl) (st : Bool) : List Br := brs r st r.alts.length
theorem brA_eq (r : Rl) (st : Bool) : brA r st = ((turns r).filter fun x => x.1 == st).map (·.2) := by
  unfold brA brs; rw [List.take_of_length_le (Nat.le_of_eq (turns_len r))]
theorem brA_pw (r : Rl) (st : Bool) : (brA r st).Pairwise fun x y => x.alt < y.alt := by
  rw [brA_eq, List.pairwise_map]
  exact (turns_pw r).filter _
theorem brA_at {r : Rl} {st : Bool} {b : Br} (h : b ∈ brA r st) : ∃ (i : Nat) (a : Al), r.alts[i]? = some a ∧ turn r i a = (st, b) ∧ b.alt = (i : Int) + 1 := by
  obtain ⟨i, a, h1, h2⟩ := brs_mem h
  exact ⟨i, a, h1, h2, by have := turn_alt r i a; rw [h2] at this; exact this⟩
/-- Prims, then steps: no alternative twice. -/
def brD (r : Rl) : List Br := brA r false ++ brA r true
theorem brD_pw (r : Rl) : (brD r).Pairwise fun x y => x.alt ≠ y.alt := by
  unfold brD
  rw [List.pairwise_append]
  refine ⟨(brA_pw r false).imp fun h q => by omega, (brA_pw r true).imp fun h q => by omega, fun x hx y hy q => ?_⟩
  obtain ⟨i, a, h1, h2, h3⟩ := brA_at hx
  obtain ⟨j, b, k1, k2, k3⟩ := brA_at hy
  have : i = j := by omega
  subst this
  rw [h1] at k1; cases k1
  rw [h2] at k2; cases k2
theorem brD_fresh {r : Rl} {m : Nat} {b : Br} (h : (brD r)[m]? = some b) : (((brD r).take m).any fun x => x.alt == b.alt) = false := by
  rw [List.any_eq_false]
  intro x hx q
  obtain ⟨k, hk⟩ := List.getElem?_of_mem hx
  rw [List.getElem?_take] at hk
  split at hk
  · rename_i hkm
    obtain ⟨h1, h1'⟩ := List.getElem?_eq_some_iff.1 hk
    obtain ⟨h2, h2'⟩ := List.getElem?_eq_some_iff.1 h
    have := List.pairwise_iff_getElem.1 (brD_pw r) k m h1 h2 hkm
    rw [h1', h2'] at this
    exact this (by simpa using q)
  · cases hk
theorem flt_len {α : Type} (p : α → Bool) : ∀ l : List α, (l.filter fun x => p x == false).length + (l.filter fun x => p x == true).length = l.length
  | [] => rfl
  | x :: l => by
    have := flt_len p l
    cases h : p x <;> simp [h] at this ⊢ <;> omega
theorem brA_len (r : Rl) : (brA r false).length + (brA r true).length = r.alts.length := by
  rw [brA_eq, brA_eq, List.length_map, List.length_map, ← turns_len r]
  exact flt_len (fun x : Bool × Br => x.1) (turns r)
theorem brA_some (r : Rl) : decide ((((brA r true).length : Nat) : Int) > 0) = isR r := by
  cases h : isR r
  · have h1 : brA r true = [] := by
      rw [brA_eq, List.map_eq_nil_iff, List.filter_eq_nil_iff]
      intro x hx
      obtain ⟨i, hi⟩ := List.getElem?_of_mem hx
      obtain ⟨a, _, rfl⟩ := turns_at hi
      simp [turn, h]
    rw [h1]; rfl
  · have h2 := h
    simp only [isR, Bool.and_eq_true, List.any_eq_true] at h2
    obtain ⟨_, a, hm, hb⟩ := h2
    obtain ⟨i, hi⟩ := List.getElem?_of_mem hm
    have h3 : (turn r i a).1 = true := by simp [turn, h, hb]
    have h4 := List.mem_of_getElem? (turns_get hi)
    have h5 : (turn r i a).2 ∈ brA r true := by
      rw [brA_eq]
      exact List.mem_map_of_mem (List.mem_filter.2 ⟨h4, by simp [h3]⟩)
    have := List.length_pos_of_mem h5
    exact decide_eq_true (by omega)

/-! Copies of what is turned. -/
mutual
theorem cpE_cp : ∀ e : El, cpE (cpE e) = cpE e
  | .mk op name set lz g kids level place => by simp only [cpE]; rw [cpEs_cp kids]
theorem cpEs_cp : ∀ l : List El, cpEs (cpEs l) = cpEs l
  | [] => rfl
  | e :: l => by simp only [cpEs]; rw [cpE_cp e, cpEs_cp l]
end
theorem cpE_lv (lvl : Int) (e : El) : cpE (lvE lvl e) = cpE e := by cases e; rfl
theorem map_cp (l : List El) : (l.map cpE).map cpE = l.map cpE := by rw [List.map_map]; exact List.map_congr_left fun e _ => cpE_cp e
theorem cp_lastK (s : ByteArray) (lvl : Int) (l : List El) : (lastK s lvl l).map cpE = l.map cpE := by
  unfold lastK
  split
  · rename_i k hk
    split
    · rw [List.map_set, cpE_lv]
      apply List.ext_getElem?
      intro i
      rw [List.getElem?_set]
      split
      · rename_i h
        subst h
        rw [List.getElem?_map, hk]
        have := (List.getElem?_eq_some_iff.1 hk).1
        simp [this]
      · rfl
    · rfl
  · rfl
theorem cp_lastE (s : ByteArray) (lvl : Int) (e : El) : cpE (lastE s lvl e) = cpE e := by
  rcases e with ⟨op, name, set, lz, g, kids, level, place⟩
  simp only [lastE]
  split
  · rfl
  · split
    · simp only [cpE, cpEs_map, cp_lastK]
    · rfl
theorem turn_cp (r : Rl) (i : Nat) (a : Al) (h : (turn r i a).1 = false) : cpE (turn r i a).2.e = cpE a.e := by
  revert h
  unfold turn
  split
  · split
    · intro h; cases h
    · intro _; show cpE (lastE _ _ (cpE a.e)) = _; rw [cp_lastE, cpE_cp]
  · intro _; exact cpE_cp a.e
theorem turn_lev (r : Rl) (i : Nat) (a : Al) (h : (turn r i a).1 = true) : (turn r i a).2.level = lvl r.alts.length ((i : Int) + 1) := by
  revert h
  unfold turn
  split
  · split
    · intro _; rfl
    · intro h; cases h
  · intro h; cases h
theorem turn_step (r : Rl) (i : Nat) (a : Al) (h : (turn r i a).1 = true) : begN r.name a.e = true ∧ ∃ l, (turn r i a).2.e = restE (lastE r.name l (cpE a.e)) := by
  revert h
  unfold turn
  split
  · split
    · rename_i hb; intro _; exact ⟨hb, _, rfl⟩
    · intro h; cases h
  · intro h; cases h
/-- What stands behind the first of an alternative that begins with the name: its kids, copied. -/
theorem rest_kids {s : ByteArray} {l : Int} {op : Int} {name : ByteArray} {set : List (Int × Int)} {lz : Bool} {g : Gd} {k0 k1 : El} {kids : List El} {level place : Int} (h5 : (op == 5) = true) :
    cpE (restE (lastE s l (cpE (.mk op name set lz g [k0, k1] level place)))) = cpE k1 := by
  have h0 : isN s (.mk op name set lz g [cpE k0, cpE k1] 0 place) = false := by
    have : op = 5 := by simpa using h5
    subst this; rfl
  have hk := cp_lastK s l [cpE k0, cpE k1]
  have hl := lastK_length s l [cpE k0, cpE k1]
  simp only [cpE, cpEs_map, List.map_cons, List.map_nil, lastE, h0, h5, if_true, Bool.false_eq_true, if_false]
  generalize lastK s l [cpE k0, cpE k1] = K at hk hl ⊢
  match K, hk, hl with
  | [x, y], hk, _ =>
    simp only [restE, h5, if_true]
    simp only [List.map_cons, List.map_nil, List.cons.injEq, and_true] at hk
    rw [hk.2, cpE_cp]
theorem rest_kidsN {s : ByteArray} {l : Int} {op : Int} {name : ByteArray} {set : List (Int × Int)} {lz : Bool} {g : Gd} {k0 : El} {kids : List El} {level place : Int} (h5 : (op == 5) = true) (hn : kids.length ≠ 1) :
    (cpE (restE (lastE s l (cpE (.mk op name set lz g (k0 :: kids) level place))))).kids = kids.map cpE := by
  have h0 : isN s (.mk op name set lz g (cpE k0 :: kids.map cpE) 0 place) = false := by
    have : op = 5 := by simpa using h5
    subst this; rfl
  have hk := cp_lastK s l (cpE k0 :: kids.map cpE)
  have hl := lastK_length s l (cpE k0 :: kids.map cpE)
  simp only [cpE, cpEs_map, List.map_cons, List.map_nil, lastE, h0, h5, if_true, Bool.false_eq_true, if_false]
  generalize lastK s l (cpE k0 :: kids.map cpE) = K at hk hl ⊢
  match kids, hn, K, hk, hl with
  | [], _, [x], hk, _ => simp only [restE, h5, if_true, opE, cpE, cpEs, El.kids, List.map_nil]
  | a :: b :: m, _, x :: y :: z :: K, hk, _ =>
    simp only [restE, h5, if_true, opE, cpE, El.kids, cpEs_map]
    simp only [List.map_cons, List.cons.injEq] at hk
    simp only [List.map_cons, hk.2.1, hk.2.2.1, hk.2.2.2, cpE_cp, map_cp]
theorem rest_plain {s : ByteArray} {l : Int} {op : Int} {name : ByteArray} {set : List (Int × Int)} {lz : Bool} {g : Gd} {kids : List El} {level place : Int} (h5 : (op == 5) = false) :
    (cpE (restE (lastE s l (cpE (.mk op name set lz g kids level place))))).kids = [] := by
  simp only [cpE, lastE, h5]
  split
  · simp only [restE, h5, Bool.false_eq_true, if_false]; rfl
  · simp only [restE, h5, Bool.false_eq_true, if_false]; rfl
theorem begN_kids {s : ByteArray} {op : Int} {name : ByteArray} {set : List (Int × Int)} {lz : Bool} {g : Gd} {kids : List El} {level place : Int} (h : begN s (.mk op name set lz g kids level place) = true) (h5 : (op == 5) = true) : kids ≠ [] := by
  rintro rfl
  have : op = 5 := by simpa using h5
  subst this
  cases h

/-! Which have been seen. -/
def seenL (n : Nat) (l : List Br) : List Bool := (List.range (n + 1)).map fun j : Nat => l.any fun b => b.alt == (j : Int)
theorem seenL_len (n : Nat) (l : List Br) : (seenL n l).length = n + 1 := by simp [seenL]
theorem seenL_nil (n : Nat) : (seenL n []).map bit = List.replicate (n + 1) [.lit (.bool false)] := by
  apply List.ext_getElem?
  intro i
  simp only [seenL, List.any_nil, List.map_map, List.getElem?_map, List.getElem?_replicate, List.getElem?_range']
  by_cases h : i < n + 1
  · rw [List.getElem?_range h, if_pos h]; rfl
  · rw [if_neg h, List.getElem?_eq_none (by simp; omega)]; rfl
theorem seenL_get {n : Nat} {l : List Br} {j : Nat} (h : j ≤ n) : (seenL n l)[j]? = some (l.any fun b => b.alt == (j : Int)) := by
  simp only [seenL, List.getElem?_map]
  rw [List.getElem?_range (by omega)]; rfl
theorem seenL_set {n : Nat} {l : List Br} {b : Br} {j : Nat} (h : b.alt = (j : Int)) : (seenL n l).set j true = seenL n (l ++ [b]) := by
  apply List.ext_getElem?
  intro i
  rw [List.getElem?_set]
  by_cases hi : i ≤ n
  · rw [seenL_get hi, seenL_get hi, seenL_len]
    by_cases hij : j = i
    · subst hij
      rw [if_pos rfl, if_pos (by omega)]
      simp [h]
    · rw [if_neg hij]
      have : ¬ b.alt = (i : Int) := by omega
      simp [this]
  · have e1 : ∀ m, (seenL n m)[i]? = none := fun m => List.getElem?_eq_none (by rw [seenL_len]; omega)
    rw [e1, e1, seenL_len]
    split
    · rw [if_neg (by omega)]
    · rfl
end Go.Proofs.Ytkbnnipiacajoaa
