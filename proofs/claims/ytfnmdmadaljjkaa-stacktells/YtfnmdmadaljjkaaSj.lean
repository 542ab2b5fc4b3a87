/- The kit's contract for the library's sort, in the words of the abstract machine: an owned slice whose rows are put in order. Conditions: those that each theorem names. Printed by the kit's lay-plain.mjs: slices.SortFunc as it lies in this program is the one that the kit has a contract for. Conditions: none. The order of stacks: a strict order; any rows sorted by the library's sort. Conditions: those that each theorem names. Contract: a row of frames turned round. Conditions: those that each theorem names. Contract: all stacks of any set told in order, or that they are too many. Conditions: those that each theorem names. Contract: all stacks of any set told in order, or that they are too many. Conditions: those that each theorem names. -/
import Derived.Test.YtfnmdmadaljjkaaXzz
import Derived.Test.YtfnmdmadaljjkaaKc
import Derived.Shelf.SlSortCmp.Whole1
import Derived.Shelf.SlGeneric
import Derived.Shelf.SlLaysF
import Derived.Ground.SlsfProg
import Derived.Test.YtfnmdmadaljjkaaTy
import Derived.Test.YtfnmdmadaljjkaaSg
import Derived.Test.YtfnmdmadaljjkaaSf
import Derived.Test.YtfnmdmadaljjkaaSd
import Derived.Test.YtfnmdmadaljjkaaDrawS
section
namespace Go.Ab
set_option linter.unusedSimpArgs false
set_option linter.unusedVariables false

theorem keeps_grow {W W' : World} (k : Keeps (fun _ => False) W W') : ∃ q os, W' = Go.Sort.grow (W.drewN q) os := by
  refine ⟨W'.drawn - W.drawn, W'.heap.extract W.heap.size W'.heap.size, ?_⟩
  have h1 := k.os; have h2 := k.tape; have h3 := k.output; have h4 := k.drawn; have h5 := k.size; have h6 := k.block
  cases W with
  | mk h t d o u =>
    cases W' with
    | mk h' t' d' o' u' =>
      simp only at h1 h2 h3 h4 h5 h6
      subst h1; subst h2; subst h3
      simp only [Go.Sort.grow, World.drewN, World.mk.injEq, and_true, true_and]
      refine ⟨?_, by omega⟩
      apply Array.ext_getElem?
      intro i
      rw [Array.getElem?_append]
      split
      · rename_i hi; exact h6 i hi (fun q => q)
      · rename_i hi
        rw [Array.getElem?_extract]
        split
        · congr 1; omega
        · rw [Array.getElem?_eq_none (by omega)]
theorem size_drewN (w : World) (n : Nat) : (w.drewN n).heap = w.heap := rfl
theorem sortWorld_heap {α : Type} [Inhabited α] {enc : α → Value} {w : World} {b m : Nat} {dk : Array α} {os : Array Obj} {vs : Array Value} {e : TypeId} (hb : w.heap[b]? = some (.cells vs e (0, 0))) :
    (Go.Proofs.sortWorld enc w b 0 m dk os).heap[b]? = some (.cells (Go.Sort.putCells enc 0 dk vs) e (0, 0)) := by
  have hlt := block_lt hb
  simp only [Go.Proofs.sortWorld, Go.Sort.grow, Go.Sort.putRow, Go.Sort.mapBlock, Go.Sort.ahead]
  rw [Array.getElem?_append_left (by simpa using hlt), Array.getElem?_modify]
  simp only [if_true, hb, Option.map_some, Go.Sort.onCells]
theorem sortWorld_other {α : Type} [Inhabited α] {enc : α → Value} {w : World} {b m : Nat} {dk : Array α} {os : Array Obj} {b' : Nat} (hb : b' < w.heap.size) (hne : b' ≠ b) :
    (Go.Proofs.sortWorld enc w b 0 m dk os).heap[b']? = w.heap[b']? := by
  simp only [Go.Proofs.sortWorld, Go.Sort.grow, Go.Sort.putRow, Go.Sort.mapBlock, Go.Sort.ahead]
  rw [Array.getElem?_append_left (by simpa using hb), Array.getElem?_modify, if_neg (Ne.symm hne)]
theorem sortWorld_size {α : Type} [Inhabited α] {enc : α → Value} {w : World} {b m : Nat} {dk : Array α} {os : Array Obj} : w.heap.size ≤ (Go.Proofs.sortWorld enc w b 0 m dk os).heap.size := by
  simp [Go.Proofs.sortWorld, Go.Sort.grow, Go.Sort.putRow, Go.Sort.mapBlock, Go.Sort.ahead]
/-- Behind it an owned slice holds other rows, as many. -/
theorem Step1.sorted {α : Type} [Inhabited α] {enc : α → Value} {g : Gh} {h : Hp} {w : World} {t : Nat} {k : Tk} {b c : Nat} {vs : Array Value} {e : TypeId} {dk : Array α} {os : Array Obj} {m : Nat} (r : HRel g h w) (hk : lk h.toks t = some k)
    (hg : g.tok t = some (b, c, k.xs.length)) (hw : w.heap[b]? = some (.cells vs e (0, 0))) (hfz : k.fz = 0) (xs' : List (List AV)) (hl : xs'.length = k.xs.length)
    (hL : Lies g (Go.Sort.putCells enc 0 dk vs) xs' k.s) (h1 : ∀ v ∈ (Go.Sort.putCells enc 0 dk vs).toList, v.oneCell' = true) :
    ∃ g', Step1 g h w g' { h with toks := up h.toks t ⟨xs', 0, k.s⟩ } (Go.Proofs.sortWorld enc w b 0 m dk os) := by
  obtain ⟨b0, c0, vs0, e0, q1, q2, q3, q4, q5, q6, q7, q8, q9⟩ := r.tok t k hk
  rw [hg] at q1; cases q1
  rw [hw] at q2; cases q2
  have hsz : (Go.Sort.putCells enc 0 dk vs).size = vs.size := by simp [Go.Sort.putCells]
  have nom : ∀ o, g.mem b o = none := fun o => q9 o (by rw [hfz]; simp)
  obtain ⟨s1, s2⟩ := r.setTok hk hg (Go.Sort.putCells enc 0 dk vs) xs' 0 hL h1 (by rw [hsz]; exact q3) (by omega) (by omega) (by omega) (by omega) (fun o v q => by rw [nom o] at q; cases q)
  have st1 : Step1 g h w (g.setTok t b c xs'.length) { h with toks := up h.toks t ⟨xs', 0, k.s⟩ } (w.setRow b (Go.Sort.putCells enc 0 dk vs)) :=
    ⟨s1, s2, Keeps.setRow w _ (.inr (.inl ⟨t, k, c, _, hk, hg⟩)), fun b' l => .inl (Live.setTok hk hg l), fun _ _ _ e => .inl e⟩
  have kp : Keeps (fun _ => False) (w.setRow b (Go.Sort.putCells enc 0 dk vs)) (Go.Proofs.sortWorld enc w b 0 m dk os) := by
    refine ⟨rfl, rfl, rfl, Nat.le_add_right _ _, ?_, fun b' hb' _ => ?_⟩
    · have : (w.setRow b (Go.Sort.putCells enc 0 dk vs)).heap.size = w.heap.size := by simp
      rw [this]; exact sortWorld_size
    · have hb'' : b' < w.heap.size := by simpa using hb'
      by_cases hbb : b' = b
      · subst hbb
        rw [sortWorld_heap hw, setRow_heap w b' vs _ e _ hw]
      · rw [sortWorld_other hb'' hbb, setRow_other w b b' _ hbb]
  have mem : MemOk g.mem (Go.Proofs.sortWorld enc w b 0 m dk os) := fun b' o v q => by
    obtain ⟨f1, f2⟩ := s1.mem b' o v q
    have hb' : b' < (w.setRow b (Go.Sort.putCells enc 0 dk vs)).heap.size := by
      rcases Nat.lt_or_ge b' (w.setRow b (Go.Sort.putCells enc 0 dk vs)).heap.size with q | q
      · exact q
      · unfold World.cell? at f1
        simp only at f1
        rw [Array.getElem?_eq_none q] at f1
        cases f1
    exact ⟨(World.cell?_of_block (kp.block b' hb' (fun q => q))).trans f1, f2⟩
  exact ⟨_, st1.trans (s1.frame (m := g.mem) mem kp (fun _ _ _ e => e) (fun _ _ _ e => .inl e))⟩
end Go.Ab
end

section
namespace Go.Proofs
open Go.Shelf
def Ytfnmdmadaljjkaa.sortLay_ren : Go.Shelf.Ren := ⟨fun | 6 => 34 | 15 => 51 | 14 => 50 | 28 => 61 | 29 => 62 | 20 => 53 | 21 => 54 | 22 => 55 | 23 => 56 | 24 => 57 | 25 => 58 | 26 => 59 | 27 => 60 | 46 => 63 | 47 => 64 | 48 => 65 | 49 => 66 | 50 => 67 | 57 => 68 | n => n, fun | 22 => 29 | 24 => 23 | 25 => 74 | 3 => 3 | 39 => 53 | 0 => 0 | 53 => 100 | 55 => 102 | 4 => 4 | 46 => 94 | 45 => 93 | 50 => 77 | 5 => 5 | 9 => 9 | 66 => 103 | 70 => 107 | 76 => 109 | 77 => 110 | n => n, fun | n => n⟩
theorem Ytfnmdmadaljjkaa.sortLay : Go.Proofs.SlLaysF.n6 Try.prog Ytfnmdmadaljjkaa.sortLay_ren := {
  mixed := by kernel_rfl
  f6 := ⟨Try.f34.name, by decide, Try.func34.trans (congrArg some (by kernel_rfl))⟩
  f14 := ⟨Try.f50.name, by decide, Try.func50.trans (congrArg some (by kernel_rfl))⟩
  f15 := Try.func51.trans (congrArg some (by kernel_rfl))
  f20 := ⟨Try.f53.name, by decide, Try.func53.trans (congrArg some (by kernel_rfl))⟩
  f21 := ⟨Try.f54.name, by decide, Try.func54.trans (congrArg some (by kernel_rfl))⟩
  f22 := ⟨Try.f55.name, by decide, Try.func55.trans (congrArg some (by kernel_rfl))⟩
  f23 := ⟨Try.f56.name, by decide, Try.func56.trans (congrArg some (by kernel_rfl))⟩
  f24 := ⟨Try.f57.name, by decide, Try.func57.trans (congrArg some (by kernel_rfl))⟩
  f25 := ⟨Try.f58.name, by decide, Try.func58.trans (congrArg some (by kernel_rfl))⟩
  f26 := ⟨Try.f59.name, by decide, Try.func59.trans (congrArg some (by kernel_rfl))⟩
  f27 := ⟨Try.f60.name, by decide, Try.func60.trans (congrArg some (by kernel_rfl))⟩
  f28 := Try.func61.trans (congrArg some (by kernel_rfl))
  f29 := Try.func62.trans (congrArg some (by kernel_rfl))
  f46 := ⟨Try.f63.name, by decide, Try.func63.trans (congrArg some (by kernel_rfl))⟩
  f47 := Try.func64.trans (congrArg some (by kernel_rfl))
  f48 := Try.func65.trans (congrArg some (by kernel_rfl))
  f49 := ⟨Try.f66.name, by decide, Try.func66.trans (congrArg some (by kernel_rfl))⟩
  f50 := ⟨Try.f67.name, by decide, Try.func67.trans (congrArg some (by kernel_rfl))⟩
  f57 := ⟨Try.f68.name, by decide, Try.func68.trans (congrArg some (by kernel_rfl))⟩
  t0 := Try.underlying0
  a0 := Try.isAgg0
  z0 := Try.sizeOf0
  v0 := Try.zeroValue0
  t3 := Try.underlying3
  a3 := Try.isAgg3
  z3 := Try.sizeOf3
  v3 := Try.zeroValue3
  t4 := Try.underlying4
  a4 := Try.isAgg4
  z4 := Try.sizeOf4
  v4 := Try.zeroValue4
  t5 := Try.underlying5
  a5 := Try.isAgg5
  z5 := Try.sizeOf5
  v5 := Try.zeroValue5
  t9 := Try.underlying9
  a9 := Try.isAgg9
  z9 := Try.sizeOf9
  v9 := Try.zeroValue9
  t22 := Try.underlying29
  a22 := Try.isAgg29
  z22 := Try.sizeOf29
  v22 := Try.zeroValue29
  a24 := Try.isAgg23
  z24 := Try.sizeOf23
  t25 := Try.underlying74
  a25 := Try.isAgg74
  z25 := Try.sizeOf74
  v25 := Try.zeroValue74
  t39 := Try.underlying53
  a39 := Try.isAgg53
  z39 := Try.sizeOf53
  v39 := Try.zeroValue53
  t45 := Try.underlying93
  a45 := Try.isAgg93
  z45 := Try.sizeOf93
  v45 := Try.zeroValue93
  t46 := Try.underlying94
  a46 := Try.isAgg94
  z46 := Try.sizeOf94
  v46 := Try.zeroValue94
  t50 := Try.underlying77
  a50 := Try.isAgg77
  z50 := Try.sizeOf77
  v50 := Try.zeroValue77
  t53 := Try.underlying100
  a53 := Try.isAgg100
  z53 := Try.sizeOf100
  v53 := Try.zeroValue100
  t55 := Try.underlying102
  a55 := Try.isAgg102
  z55 := Try.sizeOf102
  v55 := Try.zeroValue102
  t66 := Try.underlying103
  a66 := Try.isAgg103
  z66 := Try.sizeOf103
  v66 := Try.zeroValue103
  t70 := Try.underlying107
  a70 := Try.isAgg107
  z70 := Try.sizeOf107
  v70 := Try.zeroValue107
  t76 := Try.underlying109
  a76 := Try.isAgg109
  z76 := Try.sizeOf109
  v76 := Try.zeroValue109
  t77 := Try.underlying110
  a77 := Try.isAgg110
  z77 := Try.sizeOf110
  v77 := Try.zeroValue110 }
end Go.Proofs
end

section
namespace Go.Proofs.Ytfnmdmadaljjkaa
open Go Go.Ab
set_option linter.unusedSimpArgs false
set_option linter.unusedVariables false
set_option maxRecDepth 20000

theorem cmpI_lt {a b : Int} : cmpI a b < 0 ↔ a < b := by unfold cmpI; split <;> (try split) <;> omega
theorem cmpI_gt {a b : Int} : 0 < cmpI a b ↔ b < a := by unfold cmpI; split <;> (try split) <;> omega
theorem cmpI_eq {a b : Int} : cmpI a b = 0 ↔ a = b := by unfold cmpI; split <;> (try split) <;> omega
theorem cmpP_lt {x y : Int × Int} : cmpP x y < 0 ↔ x.1 < y.1 ∨ x.1 = y.1 ∧ x.2 < y.2 := by
  unfold cmpP cmpF
  have a1 := @cmpI_lt x.1 y.1; have a2 := @cmpI_gt x.1 y.1; have a3 := @cmpI_eq x.1 y.1
  have b1 := @cmpI_lt x.2 y.2; have b2 := @cmpI_gt x.2 y.2; have b3 := @cmpI_eq x.2 y.2
  split <;> rename_i h <;> constructor <;> intro q <;> omega
theorem cmpP_gt {x y : Int × Int} : 0 < cmpP x y ↔ cmpP y x < 0 := by
  rw [cmpP_lt]
  unfold cmpP cmpF
  have a1 := @cmpI_lt x.1 y.1; have a2 := @cmpI_gt x.1 y.1; have a3 := @cmpI_eq x.1 y.1
  have b1 := @cmpI_lt x.2 y.2; have b2 := @cmpI_gt x.2 y.2; have b3 := @cmpI_eq x.2 y.2
  split <;> rename_i h <;> constructor <;> intro q <;> omega
theorem cmpP_eq {x y : Int × Int} : cmpP x y = 0 ↔ x = y := by
  obtain ⟨x1, x2⟩ := x; obtain ⟨y1, y2⟩ := y
  have h1 := @cmpP_lt (x1, x2) (y1, y2)
  have h2 := @cmpP_gt (x1, x2) (y1, y2)
  have h3 := @cmpP_lt (y1, y2) (x1, x2)
  simp only [Prod.mk.injEq] at h1 h2 h3 ⊢
  constructor <;> intro q <;> omega
theorem cmpL_eq : ∀ {a b : Sk}, a.length = b.length → (cmpL a b = 0 ↔ a = b)
  | [], [], _ => by simp [cmpL]
  | [], _ :: _, h => by simp at h
  | _ :: _, [], h => by simp at h
  | x :: a, y :: b, h => by
    have ih := cmpL_eq (a := a) (b := b) (by simpa using h)
    simp only [cmpL, List.cons.injEq]
    split
    · rename_i q
      constructor
      · intro e; exact absurd e q
      · intro e; exact absurd (cmpP_eq.2 e.1) q
    · rename_i q
      have q : cmpP x y = 0 := by simpa using q
      rw [ih]; simp [cmpP_eq.1 q]
theorem cmpL_gt : ∀ {a b : Sk}, a.length = b.length → (0 < cmpL a b ↔ cmpL b a < 0)
  | [], [], _ => by simp [cmpL]
  | [], _ :: _, h => by simp at h
  | _ :: _, [], h => by simp at h
  | x :: a, y :: b, h => by
    have ih := cmpL_gt (a := a) (b := b) (by simpa using h)
    have e1 := @cmpP_gt x y
    have e2 := @cmpP_gt y x
    simp only [cmpL]
    split <;> split <;> rename_i q1 q2 <;> first | exact ih | (constructor <;> intro q <;> omega)
theorem cmpL_trans : ∀ {a b c : Sk}, a.length = b.length → b.length = c.length → cmpL a b < 0 → cmpL b c < 0 → cmpL a c < 0
  | [], [], c, _, _, h, _ => by simp [cmpL] at h
  | [], _ :: _, _, h, _, _, _ => by simp at h
  | _ :: _, [], _, h, _, _, _ => by simp at h
  | _ :: _, _ :: _, [], _, h, _, _ => by simp at h
  | x :: a, y :: b, z :: c, h, k, h1, h2 => by
    have ih := cmpL_trans (a := a) (b := b) (c := c) (by simpa using h) (by simpa using k)
    have t1 := @cmpP_lt x y; have t2 := @cmpP_lt y z; have t3 := @cmpP_lt x z
    have z1 := @cmpP_eq x y; have z2 := @cmpP_eq y z; have z3 := @cmpP_eq x z
    simp only [cmpL] at h1 h2 ⊢
    by_cases p : cmpP x y = 0
    · have e := z1.1 p
      subst e
      rw [if_neg (by simpa using p)] at h1
      by_cases q : cmpP x z = 0
      · rw [if_neg (by simpa using q)] at h2 ⊢
        exact ih h1 h2
      · rw [if_pos q] at h2 ⊢
        exact h2
    · rw [if_pos p] at h1
      by_cases q : cmpP y z = 0
      · have e := z2.1 q
        subst e
        rw [if_pos p]; exact h1
      · rw [if_pos q] at h2
        have r : cmpP x z < 0 := by omega
        rw [if_pos (by omega)]; exact r
theorem lessL_eq {a b : Sk} : lessL a b = 0 ↔ a = b := by
  unfold lessL
  split
  · rename_i h
    constructor
    · intro q; split at q <;> omega
    · intro q; exact absurd (congrArg List.length q) h
  · rename_i h
    exact cmpL_eq (by simpa using h)
theorem lessL_gt {a b : Sk} : 0 < lessL a b ↔ lessL b a < 0 := by
  unfold lessL
  by_cases h : a.length = b.length
  · rw [if_neg (by simpa using h), if_neg (by simpa using h.symm)]
    exact cmpL_gt h
  · rw [if_pos h, if_pos (Ne.symm h)]
    constructor <;> intro q <;> split at q <;> split <;> omega
theorem lessL_trans {a b c : Sk} (h : lessL a b < 0) (k : lessL b c < 0) : lessL a c < 0 := by
  unfold lessL at *
  by_cases h1 : a.length = b.length
  · rw [if_neg (by simpa using h1)] at h
    by_cases h2 : b.length = c.length
    · rw [if_neg (by simpa using h2)] at k
      rw [if_neg (by simpa using h1.trans h2)]
      exact cmpL_trans h1 h2 h k
    · rw [if_pos h2] at k
      rw [if_pos (by omega)]
      split at k <;> split <;> omega
  · rw [if_pos h1] at h
    by_cases h2 : b.length = c.length
    · rw [if_pos (by omega)]
      split at h <;> split <;> omega
    · rw [if_pos h2] at k
      split at h <;> split at k <;> (try (first | omega | (rw [if_pos (by omega), if_pos (by omega)]; omega)))
/-- Rows in order: the one list that has them so. -/
def leB (a b : Sk) : Bool := !decide (lessL b a < 0)
def ordS (rows : List Sk) : List Sk := rows.mergeSort leB
theorem leB_iff {a b : Sk} : leB a b = true ↔ ¬ lessL b a < 0 := by simp [leB]
theorem leB_trans {a b c : Sk} (h : leB a b = true) (k : leB b c = true) : leB a c = true := by
  rw [leB_iff] at *
  intro q
  rcases Int.lt_trichotomy (lessL b a) 0 with h1 | h1 | h1
  · exact h h1
  · rw [lessL_eq.1 h1] at k; exact k q
  · exact k (lessL_trans q (lessL_gt.1 h1))
theorem leB_total (a b : Sk) : (leB a b || leB b a) = true := by
  rw [Bool.or_eq_true, leB_iff, leB_iff]
  by_cases h : lessL b a < 0
  · have := lessL_gt.2 h
    exact .inr (by omega)
  · exact .inl h
theorem leB_anti {a b : Sk} (h : leB a b = true) (k : leB b a = true) : a = b := by
  rw [leB_iff] at h k
  rcases Int.lt_trichotomy (lessL a b) 0 with h1 | h1 | h1
  · exact absurd h1 k
  · exact lessL_eq.1 h1
  · exact absurd (lessL_gt.1 h1) h
theorem ordS_perm (rows : List Sk) : (ordS rows).Perm rows := List.mergeSort_perm _ _
theorem ordS_sorted (rows : List Sk) : (ordS rows).Pairwise (fun a b => leB a b = true) := by
  refine List.pairwise_mergeSort ?_ ?_ rows
  · intro a b c h k; exact leB_trans h k
  · intro a b; exact leB_total a b
theorem ordS_unique {rows l : List Sk} (hp : l.Perm rows) (hs : l.Pairwise (fun a b => leB a b = true)) : l = ordS rows := by
  refine List.Perm.eq_of_pairwise (le := fun a b => leB a b = true) ?_ hs (ordS_sorted rows) (hp.trans (ordS_perm rows).symm)
  intro a b _ _ h1 h2
  exact leB_anti h1 h2

structure RowV (g : Gh) where
  v : Value
  s : Sk
  rep : Rep g v (encS s)
  len : s.length ≤ 2000000000
  one : v.oneCell' = true
instance (g : Gh) : Inhabited (RowV g) := ⟨⟨.slice none 0 0, [], .vecN, by decide, rfl⟩⟩
theorem rowsV {g : Gh} {vs : Array Value} (h1 : ∀ v ∈ vs.toList, v.oneCell' = true) : ∀ (rows : List Sk) (k : Nat), (∀ s ∈ rows, s.length ≤ 2000000000) → (∀ (i : Nat) (s : Sk), rows[i]? = some s → ∃ v, vs[k + i]? = some v ∧ Rep g v (encS s)) →
    ∃ l : List (RowV g), l.map (fun x => x.s) = rows ∧ ∀ (i : Nat) (x : RowV g), l[i]? = some x → vs[k + i]? = some x.v
  | [], k, _, _ => ⟨[], rfl, fun i x e => by simp at e⟩
  | s :: rows, k, hl, h => by
    obtain ⟨v, e1, e2⟩ := h 0 s rfl
    obtain ⟨l, l1, l2⟩ := rowsV h1 rows (k + 1) (fun s hs => hl s (by simp [hs])) (fun i s e => by have := h (i + 1) s e; rwa [show k + (i + 1) = k + 1 + i by omega] at this)
    refine ⟨⟨v, s, e2, hl s (by simp), h1 v ?_⟩ :: l, by simp [l1], fun i x e => ?_⟩
    · exact List.mem_of_getElem? (i := k + 0) (by rw [Array.getElem?_toList]; exact e1)
    · cases i with
      | zero => cases e; exact e1
      | succ i => have := l2 i x e; rwa [show k + 1 + i = k + (i + 1) by omega] at this
theorem swoV (g : Gh) : Go.Sort.SWO (ltOf fun x y : RowV g => lessL x.s y.s) where
  irrefl x := by simp [ltOf, lessL_eq.2 rfl]
  trans x y z h k := by
    simp only [ltOf, decide_eq_true_eq] at *
    exact lessL_trans h k
  ntrans x y z h k := by
    simp only [ltOf, decide_eq_false_iff_not] at *
    exact leB_iff.1 (leB_trans (a := z.s) (b := y.s) (c := x.s) (leB_iff.2 k) (leB_iff.2 h))
set_option maxHeartbeats 1000000 in
theorem sort_any (rows : List Sk) (hl : ∀ s ∈ rows, s.length ≤ 2000000000) (hn : rows.length ≤ 1000000000) :
    SCall Try.prog 34 [.own 0 rows.length, .fn (.func 35) [] []] (rwH rows) (fun r h' => r = .tup [] ∧ h' = rwH (ordS rows)) := by
  intro g w vals rel hargs
  obtain ⟨b, c, vs, e, q1, q2, q3, q4, q5, q6, q7, q8, q9⟩ := rel.tok 0 _ rfl
  simp only [List.length_map, Nat.mul_one] at q1 q3 q4
  obtain ⟨v0, v1, rfl⟩ : ∃ v0 v1, vals = #[v0, v1] := by
    have h := hargs.1
    obtain ⟨l⟩ := vals
    match l, h with
    | [a, b], _ => exact ⟨a, b, rfl⟩
  have r0 : Rep g v0 (.own 0 rows.length) := hargs.2 0 v0 _ rfl rfl
  have r1 : Rep g v1 (.fn (.func 35) [] []) := hargs.2 1 v1 _ rfl rfl
  cases r0 with
  | own p1 p2 =>
  obtain ⟨_, p3⟩ := p2 b c _ q1
  obtain ⟨ha, hcap⟩ := p3 rfl
  subst ha
  rw [hcap]
  clear hcap p2 p3
  cases r1 with
  | fn f1 f2 f3 f4 =>
  rename_i fs cs
  obtain rfl : fs = #[] := by have := f1; simpa using this
  obtain rfl : cs = #[] := by have := f3; simpa using this
  obtain ⟨l, l1, l2⟩ := rowsV (g := g) (vs := vs) q8 rows 0 hl (fun i s hi => by
    obtain ⟨v, w1, w2⟩ := q7 i (encR s) 0 (encS s) (by rw [List.getElem?_map, hi]; rfl) rfl
    exact ⟨v, by simpa using w1, w2⟩)
  have hll : l.length = rows.length := by rw [← l1, List.length_map]
  have hd : l.toArray.size = rows.length := by simpa using hll
  have nom : ∀ o, g.mem b o = none := fun o => q9 o (by simp)
  have hblk := block_lt q2
  have getl : ∀ j, j < l.toArray.size → ∃ x : RowV g, l[j]? = some x ∧ l.toArray[j]! = x := fun j hj => by
    have hj' : j < l.length := by simpa using hj
    refine ⟨l[j], List.getElem?_eq_getElem hj', ?_⟩
    rw [getElem!_pos l.toArray j hj]; simp
  have hH : Go.Sort.Holds (fun x : RowV g => x.v) w b 0 l.toArray := fun j hj => by
    obtain ⟨x, x1, x2⟩ := getl j hj
    refine ⟨?_, by simp [World.frozen?, q2]⟩
    rw [cell_of_block q2, x2]
    exact l2 j x x1
  have hcmp : CmpLays1 Try.prog 35 #[] (fun x : RowV g => x.v) (fun x y => lessL x.s y.s) b 0 l.toArray.size w := fun m os dk hs x y => by
    have mem : MemOk g.mem (sortWorld (fun x : RowV g => x.v) w b 0 m dk os) := fun b' o v q => by
      obtain ⟨z1, z2⟩ := rel.mem b' o v q
      have hne : b' ≠ b := fun q' => by subst q'; rw [nom o] at q; cases q
      have hb' : b' < w.heap.size := by
        rcases Nat.lt_or_ge b' w.heap.size with q | q
        · exact q
        · unfold World.cell? at z1
          simp only at z1
          rw [Array.getElem?_eq_none q] at z1
          cases z1
      exact ⟨(World.cell?_of_block (sortWorld_other hb' hne)).trans z1, z2⟩
    have hx : ∀ z : RowV g, Rep (gm g.mem) z.v (encS z.s) := fun z => pureS z.s g (gm g.mem) z.v (fun _ _ _ e => e) z.rep
    refine (cmp_spec x.s y.s x.len y.len g.mem _ #[x.v, y.v] mem (.cons (hx x) (.cons (hx y) .nil))).mono fun e w' hh => ?_
    obtain ⟨v, m', rfl, hv, _, hk, _, _⟩ := hh
    cases hv
    exact ⟨rfl, keeps_grow hk⟩
  have key := Any.slices_SortFunc sortLay (fun x : RowV g => x.v) (fun x => x.one) (fun x y => lessL x.s y.s) (swoV g) 35 #[] b 0 c l.toArray w (enters_of Try.func35 (by kernel_rfl) rfl) hcmp hH hblk (by rw [hd]; omega)
  rw [hd] at key
  refine key.mono fun e w' hh => ?_
  obtain ⟨rfl, d', n, os, ⟨k1, _, k3⟩, ks, rfl⟩ := hh
  replace k1 : d'.size = rows.length := k1.trans hd
  have e1 : d'.extract 0 rows.length = d' := by rw [← k1]; exact Array.extract_size
  have e2 : l.toArray.extract 0 rows.length = l.toArray := by rw [← hd]; exact Array.extract_size
  rw [e1, e2] at k3
  have hperm : (d'.toList.map (fun x => x.s)).Perm rows := by
    have := k3.map (fun x : RowV g => x.s)
    rwa [show l.toArray.toList = l from rfl, l1] at this
  have hsort : (d'.toList.map (fun x => x.s)).Pairwise (fun a b => leB a b = true) := by
    rw [List.pairwise_map, List.pairwise_iff_getElem]
    intro i j hi hj hij
    have hi' : i < d'.size := by simpa using hi
    have hj' : j < d'.size := by simpa using hj
    have := ks i j (Nat.zero_le _) hij (by omega)
    rw [getElem!_pos d' j hj', getElem!_pos d' i hi'] at this
    rw [leB_iff]
    simpa [ltOf] using this
  have hu := ordS_unique hperm hsort
  have hlen : (ordS rows).length = rows.length := (ordS_perm rows).length_eq
  have gd : ∀ j, j < d'.size → ∃ x : RowV g, d'.toList[j]? = some x ∧ d'[j]! = x := fun j hj => ⟨d'[j], by simp [hj], getElem!_pos d' j hj⟩
  have hput : ∀ j, j < d'.size → (Go.Sort.putCells (fun x : RowV g => x.v) 0 d' vs)[j]? = some (d'[j]!).v := fun j hj => by
    have hjv : j < vs.size := by omega
    simp only [Go.Sort.putCells, Array.getElem?_mapIdx, Array.getElem?_eq_getElem hjv, Option.map_some, Nat.zero_le, true_and, Nat.zero_add, if_pos hj, Nat.sub_zero]
  have hL : Lies g (Go.Sort.putCells (fun x : RowV g => x.v) 0 d' vs) ((ordS rows).map encR) 1 := by
    refine ⟨fun x hx => by obtain ⟨y, _, rfl⟩ := List.mem_map.1 hx; rfl, fun i x j a hi ha => ?_⟩
    rw [← hu, List.map_map, List.getElem?_map] at hi
    cases hy : d'.toList[i]? with
    | none => rw [hy] at hi; cases hi
    | some y =>
      rw [hy] at hi
      cases hi
      have hi' : i < d'.size := by
        have := (List.getElem?_eq_some_iff.1 hy).1
        simpa using this
      obtain ⟨z, z1, z2⟩ := gd i hi'
      rw [hy] at z1
      cases z1
      match j, ha with
      | 0, ha =>
        cases ha
        refine ⟨y.v, ?_, y.rep⟩
        rw [Nat.mul_one, Nat.add_zero, hput i hi', z2]
  have hone : ∀ v ∈ (Go.Sort.putCells (fun x : RowV g => x.v) 0 d' vs).toList, v.oneCell' = true := fun v hv => by
    obtain ⟨i, hi⟩ := List.mem_iff_getElem?.1 hv
    rw [Array.getElem?_toList] at hi
    simp only [Go.Sort.putCells, Array.getElem?_mapIdx] at hi
    cases hx : vs[i]? with
    | none => rw [hx] at hi; cases hi
    | some x =>
      rw [hx] at hi
      simp only [Option.map_some, Option.some.injEq] at hi
      split at hi
      · rw [← hi]; exact (d'[i - 0]!).one
      · rw [← hi]; exact q8 x (List.mem_of_getElem? (by rw [Array.getElem?_toList]; exact hx))
  obtain ⟨g', st⟩ := Step1.sorted (enc := fun x : RowV g => x.v) (dk := d') (os := os) (m := n) (t := 0) (k := ⟨rows.map encR, 0, 1⟩) rel rfl (by simpa using q1) q2 rfl ((ordS rows).map encR) (by simp [hlen]) hL hone
  exact ⟨.tuple #[], .tup [], rwH (ordS rows), g', rfl, .tup rfl (by simp), st, rfl, rfl⟩
end Go.Proofs.Ytfnmdmadaljjkaa
end

section
namespace Go.Proofs.Ytfnmdmadaljjkaa
open Go Go.Ab
set_option linter.unusedSimpArgs false
set_option linter.unusedVariables false
set_option maxRecDepth 20000
set_option maxHeartbeats 4000000

/-- So many swaps on. -/
def rvK (l : Sk) (k : Nat) : Sk := (List.range l.length).map fun i => if i < k ∨ l.length - k ≤ i then l.getD (l.length - 1 - i) (0, 0) else l.getD i (0, 0)
theorem rvK_len (l : Sk) (k : Nat) : (rvK l k).length = l.length := by simp [rvK]
theorem rvK_get (l : Sk) (k : Nat) {i : Nat} (h : i < l.length) : (rvK l k)[i]? = some (if i < k ∨ l.length - k ≤ i then l.getD (l.length - 1 - i) (0, 0) else l.getD i (0, 0)) := by
  simp [rvK, h]
theorem getD_of (l : Sk) {i : Nat} (h : i < l.length) : l[i]? = some (l.getD i (0, 0)) := by
  rw [List.getD_eq_getElem?_getD, List.getElem?_eq_getElem h]; rfl
theorem rvK_zero (l : Sk) : rvK l 0 = l := by
  apply List.ext_getElem?
  intro i
  rcases Nat.lt_or_ge i l.length with h | h
  · rw [rvK_get l 0 h, if_neg (by omega), getD_of l h]
  · rw [List.getElem?_eq_none (by rw [rvK_len]; exact h), List.getElem?_eq_none h]
theorem rvK_all (l : Sk) {k : Nat} (hk : l.length ≤ 2 * k + 1) : rvK l k = l.reverse := by
  apply List.ext_getElem?
  intro i
  rcases Nat.lt_or_ge i l.length with h | h
  · rw [rvK_get l k h, List.getElem?_reverse h, getD_of l (by omega)]
    split
    · rfl
    · rename_i q
      have : l.length - 1 - i = i := by omega
      rw [this]
  · rw [List.getElem?_eq_none (by rw [rvK_len]; exact h), List.getElem?_eq_none (by simpa using h)]
theorem rvK_next (l : Sk) {k : Nat} (hk : 2 * k + 1 < l.length) :
    ((rvK l k).set k (l.getD (l.length - 1 - k) (0, 0))).set (l.length - 1 - k) (l.getD k (0, 0)) = rvK l (k + 1) := by
  apply List.ext_getElem?
  intro i
  rcases Nat.lt_or_ge i l.length with h | h
  · rw [rvK_get l (k + 1) h, List.getElem?_set, List.getElem?_set, rvK_get l k h]
    simp only [List.length_set, rvK_len]
    by_cases h1 : l.length - 1 - k = i
    · rw [if_pos h1, if_pos (by omega), if_pos (by omega)]
      rw [show l.length - 1 - i = k by omega]
    · rw [if_neg h1]
      by_cases h2 : k = i
      · rw [if_pos h2, if_pos (by omega), if_pos (by omega), ← h2]
      · rw [if_neg h2]
        by_cases h3 : i < k ∨ l.length - k ≤ i
        · rw [if_pos h3, if_pos (by omega)]
        · rw [if_neg h3, if_neg (by omega)]
  · rw [List.getElem?_eq_none (by simp [rvK_len]; exact h), List.getElem?_eq_none (by rw [rvK_len]; exact h)]
def rvS (l : Sk) (k : Nat) (_ : Unit) : St := ⟨[(0, .own 0 l.length), (2, .lit (.int .i64 (k : Int))), (3, .lit (.int .i64 ((l.length : Int) - 1 - k)))], ⟨[], [(0, ⟨(rvK l k).map encP, 0, 2⟩)], 1⟩, 28⟩
theorem reverse_any (l : Sk) (hl : l.length ≤ 2000000000) : RevC l := by
  unfold RevC
  refine SCall_introC Try.func33 rfl Try.ntmps33 (rs := []) rfl (by simp) (N := 1) rfl ?_
  have w0 : IntKind.i64.wrap ((l.length : Int) - 1) = (l.length : Int) - 1 := i64w (by omega) (by omega)
  simp -implicitDefEqProofs only [awl, ne_eq, srcRows, awo, aggEq, eqF, litEq, andO, qwl, qwo, Go.Ab.qOp, lop, oneK, stepOp, pairO, pureOp, heapOp, entry, slotsOf, ev, evL, evP, evO, lk, up, St.put, St.drop, constAV, cellAV, cellsAV, plain, binV, nilCmp, intBin, strBin, guardBit, boolOf, fnOf, intOfAV, bound, resOf, retV, moved, rowOf, valAt, Kd.agg, AV.cells, splice, places, fillAV, rowsFill, Hp.none, ↓reduceIte, reduceCtorEq, Nat.reduceLT, Nat.reduceEqDiff, Nat.reduceAdd, Nat.reduceLeDiff, Nat.reducePow, Nat.reduceMul, Yzz, Xzz, Yzy, tyW, w0]
  refine aw_for (l.length / 2) 1 (rvS l) (fun _ _ => True) (fun _ _ => rfl) () ?_ trivial (fun k _ hlt _ => ?_) (fun _ _ => ?_)
  · have e0 : rvS l 0 () = ⟨[(0, .own 0 l.length), (2, .lit (.int .i64 0)), (3, .lit (.int .i64 ((l.length : Int) - 1)))], ⟨[], [(0, ⟨l.map encP, 0, 2⟩)], 1⟩, 28⟩ := by simp [rvS, rvK_zero]
    rw [e0]
    exact St.wk_slots (by simp [lk])
  · have hk : 2 * k + 1 < l.length := by omega
    have i1 : (k : Int) < (l.length : Int) - 1 - k := by omega
    have ncast : ∀ n : Nat, (0 : Int) ≤ (n : Int) := Int.natCast_nonneg
    have hx : (rvK l k)[k]? = some (l.getD k (0, 0)) := by rw [rvK_get l k (by omega), if_neg (by omega)]
    have hy : (rvK l k)[l.length - 1 - k]? = some (l.getD (l.length - 1 - k) (0, 0)) := by rw [rvK_get l k (by omega), if_neg (by omega)]
    have nx := rvK_next l hk
    generalize l.getD k (0, 0) = x at hx nx
    generalize l.getD (l.length - 1 - k) (0, 0) = y at hy nx
    have gx := map_getD encP hx
    have gy := map_getD encP hy
    have gx' : ((rvK l k).map encP)[k]? = some (encP x) := by rw [List.getElem?_map, hx]; rfl
    have gy' : ((rvK l k).map encP)[l.length - 1 - k]? = some (encP y) := by rw [List.getElem?_map, hy]; rfl
    have ex : ∀ p, encP p = [.lit (.int .i64 p.1), .lit (.int .i64 p.2)] := fun _ => rfl
    rw [ex] at gx gy gx' gy'
    have j0 : (0 : Int) ≤ (l.length : Int) - 1 - k := by omega
    have j1 : (l.length : Int) - 1 - k < (l.length : Int) := by omega
    have j2 : ((l.length : Int) - 1 - k).toNat = l.length - 1 - k := by omega
    have k1 : (k : Int) < (l.length : Int) := by omega
    have e0 : ((rvK l k).map encP).length = l.length := by simp [rvK_len]
    have w1 : IntKind.i64.wrap ((k : Int) + 1) = ((k + 1 : Nat) : Int) := by rw [i64w (by omega) (by omega)]; omega
    have w2 : IntKind.i64.wrap ((l.length : Int) - 1 - k - 1) = (l.length : Int) - 1 - ((k + 1 : Nat) : Int) := by rw [i64w (by omega) (by omega)]; omega
    simp -implicitDefEqProofs only [awl, ne_eq, srcRows, awo, aggEq, eqF, litEq, andO, qwl, qwo, Go.Ab.qOp, lop, oneK, stepOp, pairO, pureOp, heapOp, entry, slotsOf, ev, evL, evP, evO, lk, up, St.put, St.drop, constAV, cellAV, cellsAV, plain, binV, nilCmp, intBin, strBin, guardBit, boolOf, fnOf, intOfAV, bound, resOf, retV, moved, rowOf, valAt, Kd.agg, AV.cells, splice, places, fillAV, rowsFill, Hp.none, ↓reduceIte, reduceCtorEq, Nat.reduceLT, Nat.reduceEqDiff, Nat.reduceAdd, Nat.reduceLeDiff, Nat.reducePow, Nat.reduceMul, Yzz, Xzz, Yzy, tyW, rvS, i1, decide_true]
    refine aw_drawS (n := 28) (σ' := ⟨[(0, .own 0 l.length), (2, .lit (.int .i64 (k : Int))), (3, .lit (.int .i64 ((l.length : Int) - 1 - k)))], ⟨[], [(0, ⟨(rvK l (k + 1)).map encP, 0, 2⟩)], 1⟩, 28⟩) 1 13 (.alt 14 (.alt 15 .leaf .nil) .nil) rfl rfl (by decide) (by decide) (by decide) mixed (by kernel_rfl) (by decide) ?_ ?_
    · simp -implicitDefEqProofs only [awl, ne_eq, srcRows, awo, aggEq, eqF, litEq, andO, qwl, qwo, Go.Ab.qOp, lop, oneK, stepOp, pairO, pureOp, heapOp, entry, slotsOf, ev, evL, evP, evO, lk, up, St.put, St.drop, constAV, cellAV, cellsAV, plain, binV, nilCmp, intBin, strBin, guardBit, boolOf, fnOf, intOfAV, bound, resOf, retV, moved, rowOf, valAt, Kd.agg, AV.cells, splice, places, fillAV, rowsFill, Hp.none, ↓reduceIte, reduceCtorEq, Nat.reduceLT, Nat.reduceEqDiff, Nat.reduceAdd, Nat.reduceLeDiff, Nat.reducePow, Nat.reduceMul, Yzz, Xzz, Yzy, tyW, effU_none, ncast, Int.toNat_natCast, j0, j1, j2, k1, gx, gy, gx', gy', e0, rvK_len, List.length_map]
      have gs : ((((rvK l k).map encP).set k [.lit (.int .i64 y.1), .lit (.int .i64 y.2)]).set (l.length - 1 - k) [.lit (.int .i64 x.1), .lit (.int .i64 x.2)]) = (rvK l (k + 1)).map encP := by rw [← nx, List.map_set, List.map_set]; rfl
      have gn : (((rvK l k).map encP).set k [.lit (.int .i64 y.1), .lit (.int .i64 y.2)])[l.length - 1 - k]? = some [.lit (.int .i64 y.1), .lit (.int .i64 y.2)] := by rw [List.getElem?_set_ne (by omega)]; exact gy'
      simp -implicitDefEqProofs only [awl, ne_eq, srcRows, awo, aggEq, eqF, litEq, andO, qwl, qwo, Go.Ab.qOp, lop, oneK, stepOp, pairO, pureOp, heapOp, entry, slotsOf, ev, evL, evP, evO, lk, up, St.put, St.drop, constAV, cellAV, cellsAV, plain, binV, nilCmp, intBin, strBin, guardBit, boolOf, fnOf, intOfAV, bound, resOf, retV, moved, rowOf, valAt, Kd.agg, AV.cells, splice, places, fillAV, rowsFill, Hp.none, ↓reduceIte, reduceCtorEq, Nat.reduceLT, Nat.reduceEqDiff, Nat.reduceAdd, Nat.reduceLeDiff, Nat.reducePow, Nat.reduceMul, Yzz, Xzz, Yzy, tyW, effU_none, Nat.zero_le, if_true, ncast, Int.toNat_natCast, j0, j1, j2, k1, gn, gs, gx, gy, gx', gy', e0, rvK_len, List.length_map, List.length_set]
      exact St.wk.cp (St.wk_slots (by simp [lk]))
    · simp -implicitDefEqProofs only [awl, ne_eq, srcRows, awo, aggEq, eqF, litEq, andO, qwl, qwo, Go.Ab.qOp, lop, oneK, stepOp, pairO, pureOp, heapOp, entry, slotsOf, ev, evL, evP, evO, lk, up, St.put, St.drop, constAV, cellAV, cellsAV, plain, binV, nilCmp, intBin, strBin, guardBit, boolOf, fnOf, intOfAV, bound, resOf, retV, moved, rowOf, valAt, Kd.agg, AV.cells, splice, places, fillAV, rowsFill, Hp.none, ↓reduceIte, reduceCtorEq, Nat.reduceLT, Nat.reduceEqDiff, Nat.reduceAdd, Nat.reduceLeDiff, Nat.reducePow, Nat.reduceMul, Yzz, Xzz, Yzy, tyW, w1, w2]
      exact ⟨(), St.wk.cp (St.wk_slots (by simp [lk]))⟩
  · have i1 : ¬ (((l.length / 2 : Nat) : Int) < (l.length : Int) - 1 - ((l.length / 2 : Nat) : Int)) := by omega
    simp -implicitDefEqProofs only [awl, ne_eq, srcRows, awo, aggEq, eqF, litEq, andO, qwl, qwo, Go.Ab.qOp, lop, oneK, stepOp, pairO, pureOp, heapOp, entry, slotsOf, ev, evL, evP, evO, lk, up, St.put, St.drop, constAV, cellAV, cellsAV, plain, binV, nilCmp, intBin, strBin, guardBit, boolOf, fnOf, intOfAV, bound, resOf, retV, moved, rowOf, valAt, Kd.agg, AV.cells, splice, places, fillAV, rowsFill, Hp.none, ↓reduceIte, reduceCtorEq, Nat.reduceLT, Nat.reduceEqDiff, Nat.reduceAdd, Nat.reduceLeDiff, Nat.reducePow, Nat.reduceMul, Yzz, Xzz, Yzy, tyW, rvS, i1, decide_false, rvK_all l (show l.length ≤ 2 * (l.length / 2) + 1 by omega)]
    exact ⟨_, St.wk.cp (St.wk.refl _), rfl⟩
end Go.Proofs.Ytfnmdmadaljjkaa
end

section
namespace Go.Proofs.Ytfnmdmadaljjkaa
open Go Go.Ab
set_option linter.unusedSimpArgs false
set_option linter.unusedVariables false
set_option maxRecDepth 20000
set_option maxHeartbeats 4000000

theorem stk_ne : ∀ (t : Tr) (top : Sk), Wf t → ∃ s ∈ stkT t top, top.length ≤ s.length
  | .mk true ws, top, h => ⟨top.reverse, by rw [stkT]; simp, by simp⟩
  | .mk false [], top, h => by rcases h.full with q | q; cases q; exact absurd rfl q
  | .mk false (w :: ws), top, h => by
    have hw : w ∈ w :: ws := by simp
    have k := szT_kid (b := false) hw
    obtain ⟨s, h1, h2⟩ := stk_ne w.t (top ++ [(w.s, w.l)]) (h.kid w hw)
    refine ⟨s, ?_, by simp at h2; omega⟩
    rw [stkT]
    exact List.mem_append_right _ (stkWs_mem hw h1)
termination_by t => szT t
decreasing_by exact k
theorem down_wf (D n : Nat) (hD : D ≤ 1000000000) (hn : n ≤ 1000000000) (hrev : ∀ l : Sk, l.length ≤ D → RevC l) : ∀ (t : Tr) (top : Sk) (rows : List Sk), Wf t → Bnd n t →
    rows.length + (stkT t top).length ≤ 1000000000 → (∀ s ∈ stkT t top, s.length ≤ D) → DnC (some t) top rows
  | .mk false ws, top, rows, hf, hb, hr, hs => by
    have ht : top.length ≤ D := by
      obtain ⟨s, h1, h2⟩ := stk_ne _ top hf
      exact Nat.le_trans h2 (hs s h1)
    refine downC_false ws top rows (by omega) (Nat.le_trans hb.len hn) hr fun w hw rows' h' => ?_
    have k := szT_kid (b := false) hw
    refine down_wf D n hD hn hrev w.t (top ++ [(w.s, w.l)]) rows' (hf.kid w hw) (hb.kid w hw) h' (fun s h => hs s ?_)
    rw [stkT]; exact List.mem_append_right _ (stkWs_mem hw h)
  | .mk true ws, top, rows, hf, hb, hr, hs => by
    have ht : top.length ≤ D := by
      obtain ⟨s, h1, h2⟩ := stk_ne _ top hf
      exact Nat.le_trans h2 (hs s h1)
    refine downC_true ws top rows (hrev top ht) (by omega) (Nat.le_trans hb.len hn) hr fun w hw rows' h' => ?_
    have k := szT_kid (b := true) hw
    refine down_wf D n hD hn hrev w.t (top ++ [(w.s, w.l)]) rows' (hf.kid w hw) (hb.kid w hw) h' (fun s h => hs s ?_)
    rw [stkT]; exact List.mem_append_right _ (stkWs_mem hw h)
termination_by t => szT t
decreasing_by all_goals exact k
theorem cntWs_len {top : Sk} : ∀ {ws : List Wy} (_ : ∀ w ∈ ws, ∀ top : Sk, cntT w.t = min ((stkT w.t top).length : Int) 1073741824) {k : Int}, 0 ≤ k → k ≤ 1073741824 → cntWs k ws = min (k + ((stkWs ws top).length : Int)) 1073741824
  | [], _, k, h0, h1 => by simp only [cntWs, stkWs, List.length_nil]; omega
  | w :: ws, ih, k, h0, h1 => by
    have e := ih w (by simp) (top ++ [(w.s, w.l)])
    simp only [cntWs, stkWs, List.length_append, stkW_t, cntW_t]
    rw [cntWs_len (top := top) (fun v hv => ih v (by simp [hv])) (by omega) (by omega)]
    omega
theorem cnt_len : ∀ (t : Tr) (top : Sk), cntT t = min ((stkT t top).length : Int) 1073741824
  | .mk b ws, top => by
    rw [cntT, stkT, cntWs_len (top := top) (fun w hw top => by have k := szT_kid (b := b) hw; exact cnt_len w.t top) (by split <;> omega) (by split <;> omega)]
    simp only [List.length_append]
    cases b <;> simp <;> omega
termination_by t => szT t
decreasing_by exact k
theorem cntO_len (a : Option Tr) : cntO a = min ((stkO a []).length : Int) 1073741824 := by
  cases a with
  | none => show (0 : Int) = min ((0 : Nat) : Int) 1073741824; omega
  | some t => exact cnt_len t []
theorem Len64_zero : PCall Try.prog 62 [.lit (.int .u64 0)] (.lit (.int .i64 0)) := by
  refine PCall_intro Try.func62 rfl Try.ntmps62 (rs := [.tmp 2]) rfl (by simp) ?_
  have n1 : ((0 : Int) ≥ 4294967296) = False := by decide
  have n2 : ((0 : Int) ≥ 65536) = False := by decide
  have n3 : ((0 : Int) ≥ 256) = False := by decide
  have w1 : IntKind.u8.wrap (0 : Int) = 0 := by decide
  simp -implicitDefEqProofs only [awl, ne_eq, srcRows, awo, aggEq, eqF, litEq, andO, qwl, qwo, Go.Ab.qOp, lop, oneK, stepOp, pairO, pureOp, heapOp, entry, slotsOf, ev, evL, evP, evO, lk, up, St.put, St.drop, constAV, cellAV, cellsAV, plain, binV, nilCmp, intBin, strBin, guardBit, boolOf, fnOf, intOfAV, bound, resOf, retV, moved, rowOf, valAt, Kd.agg, AV.cells, splice, places, fillAV, rowsFill, Hp.none, ↓reduceIte, reduceCtorEq, Nat.reduceLT, Nat.reduceEqDiff, Nat.reduceAdd, Nat.reduceLeDiff, Nat.reducePow, Nat.reduceMul, Yzz, Xzz, Yzy, tyW, n1, n2, n3, decide_false, w1]
  generalize hs : ByteArray.mk _ = s
  have h2 : s[Int.toNat 0]? = some (0 : UInt8) := by rw [← hs]; kernel_rfl
  have z : ((0 : Int) ≤ 0) = True := by decide
  have w2 : IntKind.i64.wrap (((0 : UInt8).toNat : Nat) : Int) = 0 := by decide
  have w3 : IntKind.i64.wrap ((0 : Int) + 0) = 0 := by decide
  simp -implicitDefEqProofs only [awl, ne_eq, srcRows, awo, aggEq, eqF, litEq, andO, qwl, qwo, Go.Ab.qOp, lop, oneK, stepOp, pairO, pureOp, heapOp, entry, slotsOf, ev, evL, evP, evO, lk, up, St.put, St.drop, constAV, cellAV, cellsAV, plain, binV, nilCmp, intBin, strBin, guardBit, boolOf, fnOf, intOfAV, bound, resOf, retV, moved, rowOf, valAt, Kd.agg, AV.cells, splice, places, fillAV, rowsFill, Hp.none, ↓reduceIte, reduceCtorEq, Nat.reduceLT, Nat.reduceEqDiff, Nat.reduceAdd, Nat.reduceLeDiff, Nat.reducePow, Nat.reduceMul, Yzz, Xzz, Yzy, tyW, h2, z, if_true, w2, w3]
  exact expo_pure (.lit _)
theorem Len_zero : PCall Try.prog 51 [.lit (.int .u64 0)] (.lit (.int .i64 0)) := by
  refine PCall_intro Try.func51 rfl Try.ntmps51 (rs := [.tmp 2]) rfl (by simp) ?_
  simp -implicitDefEqProofs only [awl, ne_eq, srcRows, awo, aggEq, eqF, litEq, andO, qwl, qwo, Go.Ab.qOp, lop, oneK, stepOp, pairO, pureOp, heapOp, entry, slotsOf, ev, evL, evP, evO, lk, up, St.put, St.drop, constAV, cellAV, cellsAV, plain, binV, nilCmp, intBin, strBin, guardBit, boolOf, fnOf, intOfAV, bound, resOf, retV, moved, rowOf, valAt, Kd.agg, AV.cells, splice, places, fillAV, rowsFill, Hp.none, ↓reduceIte, reduceCtorEq, Nat.reduceLT, Nat.reduceEqDiff, Nat.reduceAdd, Nat.reduceLeDiff, Nat.reducePow, Nat.reduceMul, Yzz, Xzz, Yzy, tyW]
  refine CallK_pure call62 Len64_zero (allc (.lit _) alln) (.lit _) ?_
  simp -implicitDefEqProofs only [awl, ne_eq, srcRows, awo, aggEq, eqF, litEq, andO, qwl, qwo, Go.Ab.qOp, lop, oneK, stepOp, pairO, pureOp, heapOp, entry, slotsOf, ev, evL, evP, evO, lk, up, St.put, St.drop, constAV, cellAV, cellsAV, plain, binV, nilCmp, intBin, strBin, guardBit, boolOf, fnOf, intOfAV, bound, resOf, retV, moved, rowOf, valAt, Kd.agg, AV.cells, splice, places, fillAV, rowsFill, Hp.none, ↓reduceIte, reduceCtorEq, Nat.reduceLT, Nat.reduceEqDiff, Nat.reduceAdd, Nat.reduceLeDiff, Nat.reducePow, Nat.reduceMul, Yzz, Xzz, Yzy, tyW]
  exact expo_pure (.lit _)
theorem insert_none (fl : Bool) : PCall Try.prog 53 [.vec [] fl, .lit (.int .i64 0), .lit (.int .i64 0), .fn (.func 35) [] []] (.tup []) := by
  refine PCall_intro Try.func53 rfl Try.ntmps53 (rs := []) rfl (by simp) ?_
  have w1 : IntKind.i64.wrap ((0 : Int) + 1) = 1 := by decide
  have i1 : ¬ (1 : Int) < 0 := by decide
  simp -implicitDefEqProofs only [awl, ne_eq, srcRows, awo, aggEq, eqF, litEq, andO, qwl, qwo, Go.Ab.qOp, lop, oneK, stepOp, pairO, pureOp, heapOp, entry, slotsOf, ev, evL, evP, evO, lk, up, St.put, St.drop, constAV, cellAV, cellsAV, plain, binV, nilCmp, intBin, strBin, guardBit, boolOf, fnOf, intOfAV, bound, resOf, retV, moved, rowOf, valAt, Kd.agg, AV.cells, splice, places, fillAV, rowsFill, Hp.none, ↓reduceIte, reduceCtorEq, Nat.reduceLT, Nat.reduceEqDiff, Nat.reduceAdd, Nat.reduceLeDiff, Nat.reducePow, Nat.reduceMul, Yzz, Xzz, Yzy, tyW, w1]
  refine aw_for 0 0 (fun _ (_ : Unit) => ⟨[(8, .lit (.int .i64 1)), (2, .lit (.int .i64 0))], .none, 53⟩) (fun _ _ => True) (fun _ _ => rfl) () (St.wk_slots (by simp [lk])) trivial (fun i _ hlt _ => absurd hlt (Nat.not_lt_zero _)) (fun _ _ => ?_)
  simp -implicitDefEqProofs only [awl, ne_eq, srcRows, awo, aggEq, eqF, litEq, andO, qwl, qwo, Go.Ab.qOp, lop, oneK, stepOp, pairO, pureOp, heapOp, entry, slotsOf, ev, evL, evP, evO, lk, up, St.put, St.drop, constAV, cellAV, cellsAV, plain, binV, nilCmp, intBin, strBin, guardBit, boolOf, fnOf, intOfAV, bound, resOf, retV, moved, rowOf, valAt, Kd.agg, AV.cells, splice, places, fillAV, rowsFill, Hp.none, ↓reduceIte, reduceCtorEq, Nat.reduceLT, Nat.reduceEqDiff, Nat.reduceAdd, Nat.reduceLeDiff, Nat.reducePow, Nat.reduceMul, Yzz, Xzz, Yzy, tyW, i1, decide_false]
  exact expo_pure (.tup (by simp))
theorem pdq_none (fl : Bool) (k : Int) : PCall Try.prog 50 [.vec [] fl, .lit (.int .i64 0), .lit (.int .i64 0), .lit (.int .i64 k), .fn (.func 35) [] []] (.tup []) := by
  refine PCall_intro Try.func50 rfl Try.ntmps50 (rs := []) rfl (by simp) ?_
  have w1 : IntKind.i64.wrap ((0 : Int) - 0) = 0 := by decide
  have l1 : ((0 : Int) ≤ 12) = True := by decide
  simp -implicitDefEqProofs only [awl, ne_eq, srcRows, awo, aggEq, eqF, litEq, andO, qwl, qwo, Go.Ab.qOp, lop, oneK, stepOp, pairO, pureOp, heapOp, entry, slotsOf, ev, evL, evP, evO, lk, up, St.put, St.drop, constAV, cellAV, cellsAV, plain, binV, nilCmp, intBin, strBin, guardBit, boolOf, fnOf, intOfAV, bound, resOf, retV, moved, rowOf, valAt, Kd.agg, AV.cells, splice, places, fillAV, rowsFill, Hp.none, ↓reduceIte, reduceCtorEq, Nat.reduceLT, Nat.reduceEqDiff, Nat.reduceAdd, Nat.reduceLeDiff, Nat.reducePow, Nat.reduceMul, Yzz, Xzz, Yzy, tyW]
  refine aw_for 0 0 (fun _ (_ : Unit) => ⟨[(0, .vec [] fl), (1, .lit (.int .i64 0)), (2, .lit (.int .i64 0)), (4, .fn (.func 35) [] [])], .none, 148⟩) (fun _ _ => True) (fun _ _ => rfl) () (St.wk_slots (by simp [lk])) trivial (fun i _ hlt _ => absurd hlt (Nat.not_lt_zero _)) (fun _ _ => ?_)
  simp -implicitDefEqProofs only [awl, ne_eq, srcRows, awo, aggEq, eqF, litEq, andO, qwl, qwo, Go.Ab.qOp, lop, oneK, stepOp, pairO, pureOp, heapOp, entry, slotsOf, ev, evL, evP, evO, lk, up, St.put, St.drop, constAV, cellAV, cellsAV, plain, binV, nilCmp, intBin, strBin, guardBit, boolOf, fnOf, intOfAV, bound, resOf, retV, moved, rowOf, valAt, Kd.agg, AV.cells, splice, places, fillAV, rowsFill, Hp.none, ↓reduceIte, reduceCtorEq, Nat.reduceLT, Nat.reduceEqDiff, Nat.reduceAdd, Nat.reduceLeDiff, Nat.reducePow, Nat.reduceMul, Yzz, Xzz, Yzy, tyW, w1, l1, decide_true]
  refine CallK_pure call53 (insert_none fl) (allc (.vec (by simp)) (allc (.lit _) (allc (.lit _) (allc (.fn alln alln) alln)))) (.tup (by simp)) ?_
  simp -implicitDefEqProofs only [awl, ne_eq, srcRows, awo, aggEq, eqF, litEq, andO, qwl, qwo, Go.Ab.qOp, lop, oneK, stepOp, pairO, pureOp, heapOp, entry, slotsOf, ev, evL, evP, evO, lk, up, St.put, St.drop, constAV, cellAV, cellsAV, plain, binV, nilCmp, intBin, strBin, guardBit, boolOf, fnOf, intOfAV, bound, resOf, retV, moved, rowOf, valAt, Kd.agg, AV.cells, splice, places, fillAV, rowsFill, Hp.none, ↓reduceIte, reduceCtorEq, Nat.reduceLT, Nat.reduceEqDiff, Nat.reduceAdd, Nat.reduceLeDiff, Nat.reducePow, Nat.reduceMul, Yzz, Xzz, Yzy, tyW]
  exact expo_pure (.tup (by simp))
theorem sort_none (fl : Bool) : PCall Try.prog 34 [.vec [] fl, .fn (.func 35) [] []] (.tup []) := by
  refine PCall_intro Try.func34 rfl Try.ntmps34 (rs := []) rfl (by simp) ?_
  have w1 : IntKind.u64.wrap ((0 : Nat) : Int) = 0 := by decide
  have z : ((0 : Nat) : Int) = 0 := rfl
  simp -implicitDefEqProofs only [awl, ne_eq, srcRows, awo, aggEq, eqF, litEq, andO, qwl, qwo, Go.Ab.qOp, lop, oneK, stepOp, pairO, pureOp, heapOp, entry, slotsOf, ev, evL, evP, evO, lk, up, St.put, St.drop, constAV, cellAV, cellsAV, plain, binV, nilCmp, intBin, strBin, guardBit, boolOf, fnOf, intOfAV, bound, resOf, retV, moved, rowOf, valAt, Kd.agg, AV.cells, splice, places, fillAV, rowsFill, Hp.none, ↓reduceIte, reduceCtorEq, Nat.reduceLT, Nat.reduceEqDiff, Nat.reduceAdd, Nat.reduceLeDiff, Nat.reducePow, Nat.reduceMul, Yzz, Xzz, Yzy, tyW, w1, z]
  refine CallK_pure call51 Len_zero (allc (.lit _) alln) (.lit _) ?_
  simp -implicitDefEqProofs only [awl, ne_eq, srcRows, awo, aggEq, eqF, litEq, andO, qwl, qwo, Go.Ab.qOp, lop, oneK, stepOp, pairO, pureOp, heapOp, entry, slotsOf, ev, evL, evP, evO, lk, up, St.put, St.drop, constAV, cellAV, cellsAV, plain, binV, nilCmp, intBin, strBin, guardBit, boolOf, fnOf, intOfAV, bound, resOf, retV, moved, rowOf, valAt, Kd.agg, AV.cells, splice, places, fillAV, rowsFill, Hp.none, ↓reduceIte, reduceCtorEq, Nat.reduceLT, Nat.reduceEqDiff, Nat.reduceAdd, Nat.reduceLeDiff, Nat.reducePow, Nat.reduceMul, Yzz, Xzz, Yzy, tyW]
  refine CallK_pure call50 (pdq_none fl 0) (allc (.vec (by simp)) (allc (.lit _) (allc (.lit _) (allc (.lit _) (allc (.fn alln alln) alln))))) (.tup (by simp)) ?_
  simp -implicitDefEqProofs only [awl, ne_eq, srcRows, awo, aggEq, eqF, litEq, andO, qwl, qwo, Go.Ab.qOp, lop, oneK, stepOp, pairO, pureOp, heapOp, entry, slotsOf, ev, evL, evP, evO, lk, up, St.put, St.drop, constAV, cellAV, cellsAV, plain, binV, nilCmp, intBin, strBin, guardBit, boolOf, fnOf, intOfAV, bound, resOf, retV, moved, rowOf, valAt, Kd.agg, AV.cells, splice, places, fillAV, rowsFill, Hp.none, ↓reduceIte, reduceCtorEq, Nat.reduceLT, Nat.reduceEqDiff, Nat.reduceAdd, Nat.reduceLeDiff, Nat.reducePow, Nat.reduceMul, Yzz, Xzz, Yzy, tyW]
  exact expo_pure (.tup (by simp))
end Go.Proofs.Ytfnmdmadaljjkaa
end

section
namespace Go.Proofs.Ytfnmdmadaljjkaa
open Go Go.Ab
set_option linter.unusedSimpArgs false
set_option linter.unusedVariables false
set_option maxRecDepth 20000
set_option maxHeartbeats 4000000

theorem sort_at' {rows : List Sk} (hc : SCall Try.prog 34 [.own 0 rows.length, .fn (.func 35) [] []] (rwH rows) (fun r h' => r = .tup [] ∧ h' = rwH (ordS rows))) {H : Hp} {t : Nat} (ht : lk H.toks t = some ⟨rows.map encR, 0, 1⟩) (hlt : t < H.nx) :
    SCall Try.prog 34 [.own t rows.length, .fn (.func 35) [] []] H (fun r h' => r = .tup [] ∧ h' = ⟨H.boxes, (t, ⟨(ordS rows).map encR, 0, 1⟩) :: H.toks, H.nx⟩) := by
  refine SCall.sub (hs := rwH rows) (rho [t]) (fun a b ha hb e => rho_inj (l := [t]) (by simp) a b ha hb e) (fun a ha => rho_lt (l := [t]) (by simpa using hlt) a ha)
    (.cons (.own (by show 0 < 1; decide) rfl) (.cons (.fn .nil .nil) .nil)) alln (allc ⟨by show 0 < 1; decide, _, ht, rfl, rfl, .pure (pure_rows pureR _)⟩ alln) hc ?_
  rintro r h' ⟨rfl, rfl⟩ hle
  refine ⟨.tup [], ⟨H.boxes, (t, ⟨(ordS rows).map encR, 0, 1⟩) :: H.toks, H.nx⟩, 0, Nat.le_refl _, rfl, .tup .nil, fun id cs' e => .inr ⟨e, fun i c e' => by cases e'⟩, fun id k e => ?_, rfl, rfl⟩
  simp only [lk] at e
  split at e
  · rename_i q; cases e; subst q
    exact .inl ⟨0, _, by show 0 < 1; decide, rfl, rfl, rfl, rfl, .pure (pure_rows pureR _)⟩
  · rename_i q
    refine .inr ⟨e, fun i hi => ?_⟩
    have : i = 0 := by have hi : i < 1 := hi; omega
    subst this
    exact q
def allR (a : Option Tr) (most : Int) : AV := if cntO a > min (max most 0) 1000 then .tup [.vec [] false, .lit (.int .i64 3)] else .tup [.vec ((ordS (stkO a [])).map encR) false, .lit (.int .i64 0)]
theorem gp_allR (a : Option Tr) (most : Int) : GP (allR a most) := by
  unfold allR
  split
  · exact .of_pure (.tup (allc (.vec (by simp)) (allc (.lit _) alln)))
  · exact .of_pure (.tup (allc (.vec (pure_rows pureR _)) (allc (.lit _) alln)))
theorem All_spec (n : Nat) (hn : n ≤ 1000000000) (a : Option Tr) (wa : WfO a) (na : BndO n a) (most : Int) (hs : ∀ s ∈ stkO a [], s.length ≤ 1000000000) :
    KCall Try.prog 7 [encB a, .lit (.int .i64 most)] (allR a most) := by
  refine KCall_of (SCall_intro Try.func7 rfl Try.ntmps7 (rs := [.tmp 4, .tmp 5]) rfl (by simp) ?_)
  simp -implicitDefEqProofs only [awl, ne_eq, srcRows, awo, aggEq, eqF, litEq, andO, qwl, qwo, Go.Ab.qOp, lop, oneK, stepOp, pairO, pureOp, heapOp, entry, slotsOf, ev, evL, evP, evO, lk, up, St.put, St.drop, constAV, cellAV, cellsAV, plain, binV, nilCmp, intBin, strBin, guardBit, boolOf, fnOf, intOfAV, bound, resOf, retV, moved, rowOf, valAt, Kd.agg, AV.cells, splice, places, fillAV, rowsFill, Hp.none, ↓reduceIte, reduceCtorEq, Nat.reduceLT, Nat.reduceEqDiff, Nat.reduceAdd, Nat.reduceLeDiff, Nat.reducePow, Nat.reduceMul, Yzz, Xzz, Yzy, tyW, encB]
  refine CallK_k call9 (Size_spec n (by omega) a na) (allc (gp_encB a) alln) (.lit _) ?_
  simp -implicitDefEqProofs only [awl, ne_eq, srcRows, awo, aggEq, eqF, litEq, andO, qwl, qwo, Go.Ab.qOp, lop, oneK, stepOp, pairO, pureOp, heapOp, entry, slotsOf, ev, evL, evP, evO, lk, up, St.put, St.drop, constAV, cellAV, cellsAV, plain, binV, nilCmp, intBin, strBin, guardBit, boolOf, fnOf, intOfAV, bound, resOf, retV, moved, rowOf, valAt, Kd.agg, AV.cells, splice, places, fillAV, rowsFill, Hp.none, ↓reduceIte, reduceCtorEq, Nat.reduceLT, Nat.reduceEqDiff, Nat.reduceAdd, Nat.reduceLeDiff, Nat.reducePow, Nat.reduceMul, Yzz, Xzz, Yzy, tyW]
  unfold allR
  by_cases hm : cntO a > min (max most 0) 1000
  · have hg : (cntO a > if 1000 < if 0 > most then 0 else most then 1000 else if 0 > most then 0 else most) = True := by
      simp only [eq_iff_iff, iff_true]
      split <;> split <;> omega
    rw [if_pos hm]
    simp -implicitDefEqProofs only [awl, ne_eq, srcRows, awo, aggEq, eqF, litEq, andO, qwl, qwo, Go.Ab.qOp, lop, oneK, stepOp, pairO, pureOp, heapOp, entry, slotsOf, ev, evL, evP, evO, lk, up, St.put, St.drop, constAV, cellAV, cellsAV, plain, binV, nilCmp, intBin, strBin, guardBit, boolOf, fnOf, intOfAV, bound, resOf, retV, moved, rowOf, valAt, Kd.agg, AV.cells, splice, places, fillAV, rowsFill, Hp.none, ↓reduceIte, reduceCtorEq, Nat.reduceLT, Nat.reduceEqDiff, Nat.reduceAdd, Nat.reduceLeDiff, Nat.reducePow, Nat.reduceMul, Yzz, Xzz, Yzy, tyW, hg, decide_true]
    refine KExpo.wk (h' := ⟨[], [], 1⟩) (r' := .tup [.vec [] false, .lit (.int .i64 3)]) (St.wk_conv rfl rfl (fun g g' x p hp => ?_) (fun g g' x p hp => by cases hp) (fun g p hp => by cases hp)) (kexpo (.of_pure (.tup (allc (.vec (by simp)) (allc (.lit _) alln)))))
    rcases List.mem_singleton.1 hp with rfl
    exact ⟨_, rfl, cv_tup2 (cv_full x _ _) (cv_refl x _)⟩
  · have hg : (cntO a > if 1000 < if 0 > most then 0 else most then 1000 else if 0 > most then 0 else most) = False := by
      simp only [eq_iff_iff, iff_false]
      split <;> split <;> omega
    rw [if_neg hm]
    have hcl := cntO_len a
    have hlen : (stkO a []).length ≤ 1000 := by omega
    simp -implicitDefEqProofs only [awl, ne_eq, srcRows, awo, aggEq, eqF, litEq, andO, qwl, qwo, Go.Ab.qOp, lop, oneK, stepOp, pairO, pureOp, heapOp, entry, slotsOf, ev, evL, evP, evO, lk, up, St.put, St.drop, constAV, cellAV, cellsAV, plain, binV, nilCmp, intBin, strBin, guardBit, boolOf, fnOf, intOfAV, bound, resOf, retV, moved, rowOf, valAt, Kd.agg, AV.cells, splice, places, fillAV, rowsFill, Hp.none, ↓reduceIte, reduceCtorEq, Nat.reduceLT, Nat.reduceEqDiff, Nat.reduceAdd, Nat.reduceLeDiff, Nat.reducePow, Nat.reduceMul, Yzz, Xzz, Yzy, tyW, hg, decide_false, tyDown]
    have hc : SCall Try.prog 31 [encO a, encS [], .ptr 0 0, .ptr 1 0] (alH []) (fun r h' => r = .tup [] ∧ h' = alH (stkO a [])) := by
      cases a with
      | none => exact down_nil [] []
      | some t =>
        have := down_wf 1000000000 n (by decide) hn (fun l hl => reverse_any l (by omega)) t [] [] (wa t rfl) (na t rfl) (by show 0 + (stkO (some t) []).length ≤ 1000000000; omega) hs
        unfold DnC at this
        rw [List.nil_append] at this
        exact this
    generalize stkO a [] = rows at hc hs hlen hcl ⊢
    refine CallK.cv (args1 := [encO a, encS [], .ptr 1 0, .ptr 2 0]) (fun g => cvL_cons (cv_refl (.refl g) _) (cvL_cons (cv_full (.refl g) _ _) (cvL_cons (cv_refl (.refl g) _) (cvL_cons (cv_refl (.refl g) _) cvL_nil)))) ?_
    refine CallK_of call31 (down_at (i := 1) (j := 2) (t := 3) (o := a) hc (fun h => absurd rfl h) (by decide) (by show 1 < 3; decide) (by show 2 < 3; decide) rfl rfl (fun h => absurd rfl h)) ?_
    rintro rv h' ⟨rfl, rfl⟩
    by_cases hne : rows = []
    · subst hne
      have gD : dnG 1 2 3 3 [] [] = ⟨[(1, [.vec [] true]), (2, [dnF 1 2])], [], 3⟩ := by simp [dnG, grA, grT]
      simp -implicitDefEqProofs only [awl, ne_eq, srcRows, awo, aggEq, eqF, litEq, andO, qwl, qwo, Go.Ab.qOp, lop, oneK, stepOp, pairO, pureOp, heapOp, entry, slotsOf, ev, evL, evP, evO, lk, up, St.put, St.drop, constAV, cellAV, cellsAV, plain, binV, nilCmp, intBin, strBin, guardBit, boolOf, fnOf, intOfAV, bound, resOf, retV, moved, rowOf, valAt, Kd.agg, AV.cells, splice, places, fillAV, rowsFill, Hp.none, ↓reduceIte, reduceCtorEq, Nat.reduceLT, Nat.reduceEqDiff, Nat.reduceAdd, Nat.reduceLeDiff, Nat.reducePow, Nat.reduceMul, Yzz, Xzz, Yzy, tyW, gD]
      refine CallK_pure call34 (sort_none true) (allc (.vec (by simp)) (allc (.fn alln alln) alln)) (.tup (by simp)) ?_
      simp -implicitDefEqProofs only [awl, ne_eq, srcRows, awo, aggEq, eqF, litEq, andO, qwl, qwo, Go.Ab.qOp, lop, oneK, stepOp, pairO, pureOp, heapOp, entry, slotsOf, ev, evL, evP, evO, lk, up, St.put, St.drop, constAV, cellAV, cellsAV, plain, binV, nilCmp, intBin, strBin, guardBit, boolOf, fnOf, intOfAV, bound, resOf, retV, moved, rowOf, valAt, Kd.agg, AV.cells, splice, places, fillAV, rowsFill, Hp.none, ↓reduceIte, reduceCtorEq, Nat.reduceLT, Nat.reduceEqDiff, Nat.reduceAdd, Nat.reduceLeDiff, Nat.reducePow, Nat.reduceMul, Yzz, Xzz, Yzy, tyW]
      have e0 : (ordS []).map encR = [] := by rw [List.eq_nil_of_length_eq_zero (ordS_perm []).length_eq]; rfl
      rw [e0]
      refine KExpo.wk (h' := ⟨[], [], 3⟩) (r' := .tup [.vec [] false, .lit (.int .i64 0)]) (St.wk_conv rfl rfl (fun g g' x p hp => ?_) (fun g g' x p hp => by cases hp) (fun g p hp => by cases hp)) (kexpo (.of_pure (.tup (allc (.vec (by simp)) (allc (.lit _) alln)))))
      rcases List.mem_singleton.1 hp with rfl
      exact ⟨_, rfl, cv_tup2 (cv_full x _ _) (cv_refl x _)⟩
    · have gD : dnG 1 2 3 3 [] rows = ⟨[(1, [.own 3 rows.length]), (2, [dnF 1 2])], [(3, ⟨rows.map encR, 0, 1⟩)], 4⟩ := by simp [dnG, hne]
      simp -implicitDefEqProofs only [awl, ne_eq, srcRows, awo, aggEq, eqF, litEq, andO, qwl, qwo, Go.Ab.qOp, lop, oneK, stepOp, pairO, pureOp, heapOp, entry, slotsOf, ev, evL, evP, evO, lk, up, St.put, St.drop, constAV, cellAV, cellsAV, plain, binV, nilCmp, intBin, strBin, guardBit, boolOf, fnOf, intOfAV, bound, resOf, retV, moved, rowOf, valAt, Kd.agg, AV.cells, splice, places, fillAV, rowsFill, Hp.none, ↓reduceIte, reduceCtorEq, Nat.reduceLT, Nat.reduceEqDiff, Nat.reduceAdd, Nat.reduceLeDiff, Nat.reducePow, Nat.reduceMul, Yzz, Xzz, Yzy, tyW, gD]
      refine CallK_of call34 (sort_at' (t := 3) (sort_any rows (fun s h => Nat.le_trans (hs s h) (by decide)) (by omega)) rfl (by show 3 < 4; decide)) ?_
      rintro rv h' ⟨rfl, rfl⟩
      simp -implicitDefEqProofs only [awl, ne_eq, srcRows, awo, aggEq, eqF, litEq, andO, qwl, qwo, Go.Ab.qOp, lop, oneK, stepOp, pairO, pureOp, heapOp, entry, slotsOf, ev, evL, evP, evO, lk, up, St.put, St.drop, constAV, cellAV, cellsAV, plain, binV, nilCmp, intBin, strBin, guardBit, boolOf, fnOf, intOfAV, bound, resOf, retV, moved, rowOf, valAt, Kd.agg, AV.cells, splice, places, fillAV, rowsFill, Hp.none, ↓reduceIte, reduceCtorEq, Nat.reduceLT, Nat.reduceEqDiff, Nat.reduceAdd, Nat.reduceLeDiff, Nat.reducePow, Nat.reduceMul, Yzz, Xzz, Yzy, tyW]
      have hR : ∀ x ∈ (ordS rows).map encR, ∀ c ∈ x, GP c := fun x hx c hc => GP.of_pure (pure_rows pureR _ x hx c hc)
      have hl2 : ((ordS rows).map encR).length = rows.length := by rw [List.length_map, (ordS_perm rows).length_eq]
      refine KExpo.wk (h' := ⟨[], [], 4⟩) (r' := .tup [.vec ((ordS rows).map encR) false, .lit (.int .i64 0)]) (St.wk_freeze (t := 3) (k := ⟨(ordS rows).map encR, 0, 1⟩) rfl rfl rfl (fun g g' x c p hp => ?_) (fun g g' x c p hp => by cases hp) (fun g p hp => by cases hp)) (kexpo (.tup (allc (.vec hR) (allc (.lit _) alln))))
      rcases List.mem_singleton.1 hp with rfl
      have c : Cv g g' (.own 3 ((ordS rows).map encR).length) (.vec ((ordS rows).map encR) false) := c
      rw [hl2] at c
      exact ⟨_, rfl, cv_tup2 c (cv_refl x _)⟩
end Go.Proofs.Ytfnmdmadaljjkaa
end
