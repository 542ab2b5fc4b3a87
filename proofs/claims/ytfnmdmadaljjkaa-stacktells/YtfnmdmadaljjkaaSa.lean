/- The plain law: sets of stacks as trees are joined in any order. Conditions: those that each theorem names. The plain law: joined sets are sets: in any order, with themselves the same; what is pushed; a set is what its tops are pushed on. Conditions: those that each theorem names. Rows that grow: their values, tokens, how they are told otherwise . Conditions: those that each theorem names. Contracts: frames compared. Conditions: those that each theorem names. A set of stacks is told by its pointer; pointers to nodes. Conditions: those that each theorem names. What joining two sets of stacks makes on its way: its state, its node. Conditions: those that each theorem names. -/
import Derived.Test.YtfnmdmadaljjkaaXzz
import Derived.Test.YtfnmdmadaljjkaaCinv
import Derived.Test.YtfnmdmadaljjkaaKc
import Derived.Test.YtfnmdmadaljjkaaTy
import Derived.Test.YtfnmdmadaljjkaaLaw
import Derived.Test.YtfnmdmadaljjkaaDrawL
import Derived.Test.YtfnmdmadaljjkaaDrawF
import Derived.Test.YtfnmdmadaljjkaaThaw
section
namespace Go.Ab
set_option linter.unusedSimpArgs false
set_option linter.unusedVariables false

theorem szT_eq (b : Bool) (ws : List Wy) : szT (.mk b ws) = 1 + szWs ws := by simp [szT]
theorem szWs_cons (w : Wy) (l : List Wy) : szWs (w :: l) = 1 + szT w.t + szWs l := by cases w; simp [szWs, szW, Wy.t]
theorem szWs_mem {w : Wy} {l : List Wy} (h : w ∈ l) : szT w.t < szWs l := by
  induction l with
  | nil => cases h
  | cons v l ih =>
    rw [szWs_cons]
    rcases List.mem_cons.1 h with rfl | h
    · omega
    · have := ih h; omega
theorem szT_pos (t : Tr) : 1 ≤ szT t := by cases t; rw [szT_eq]; omega

/-! Enough rounds. -/
theorem join_fuel : ∀ n m : Nat, (∀ a b, szT a + szT b ≤ n → szT a + szT b ≤ m → joinT n a b = joinT m a b) ∧ (∀ ws vs, szWs ws + szWs vs ≤ n → szWs ws + szWs vs ≤ m → joinW n ws vs = joinW m ws vs)
  | 0, m => ⟨fun a b h _ => by have := szT_pos a; omega, fun ws vs h _ => by
      cases ws with
      | cons w l => rw [szWs_cons] at h; omega
      | nil =>
        cases vs with
        | cons w l => rw [szWs_cons] at h; omega
        | nil => cases m <;> simp [joinW]⟩
  | n + 1, 0 => ⟨fun a b _ h => by have := szT_pos a; omega, fun ws vs _ h => by
      cases ws with
      | cons w l => rw [szWs_cons] at h; omega
      | nil =>
        cases vs with
        | cons w l => rw [szWs_cons] at h; omega
        | nil => simp [joinW]⟩
  | n + 1, m + 1 => by
    obtain ⟨i1, i2⟩ := join_fuel n m
    refine ⟨fun a b h k => ?_, fun ws vs h k => ?_⟩
    · obtain ⟨b1, w1⟩ := a; obtain ⟨b2, w2⟩ := b
      rw [szT_eq, szT_eq] at h k
      simp only [joinT]
      rw [i2 w1 w2 (by omega) (by omega)]
    · cases ws with
      | nil => simp [joinW]
      | cons w ws =>
        cases vs with
        | nil => simp [joinW]
        | cons v vs =>
          rw [szWs_cons, szWs_cons] at h k
          simp only [joinW]
          rw [i2 ws (v :: vs) (by rw [szWs_cons]; omega) (by rw [szWs_cons]; omega), i2 (w :: ws) vs (by rw [szWs_cons]; omega) (by rw [szWs_cons]; omega), i2 ws vs (by omega) (by omega), i1 w.t v.t (by omega) (by omega)]
def joinWs (ws vs : List Wy) : List Wy := joinW (szWs ws + szWs vs) ws vs
theorem joinTr_mk (b c : Bool) (ws vs : List Wy) : joinTr (.mk b ws) (.mk c vs) = .mk (b || c) (joinWs ws vs) := by
  have h : szT (.mk b ws) + szT (.mk c vs) = (1 + szWs ws + szWs vs) + 1 := by rw [szT_eq, szT_eq]; omega
  unfold joinTr
  rw [h]
  simp only [joinT]
  rw [(join_fuel _ (szWs ws + szWs vs)).2 ws vs (by omega) (Nat.le_refl _)]
  rfl
theorem joinWs_nil_left (vs : List Wy) : joinWs [] vs = vs := by
  unfold joinWs
  cases vs with
  | nil => simp [joinW, szWs]
  | cons v vs =>
    have h : szWs [] + szWs (v :: vs) = (szT v.t + szWs vs) + 1 := by rw [szWs_cons]; simp [szWs]; omega
    rw [h]; simp [joinW]
theorem joinWs_nil_right (ws : List Wy) : joinWs ws [] = ws := by
  unfold joinWs
  cases ws with
  | nil => simp [joinW, szWs]
  | cons v vs =>
    have h : szWs (v :: vs) + szWs [] = (szT v.t + szWs vs) + 1 := by rw [szWs_cons]; simp [szWs]; omega
    rw [h]; simp [joinW]
theorem joinWs_cons (w v : Wy) (ws vs : List Wy) : joinWs (w :: ws) (v :: vs) = if cmpW w v < 0 then w :: joinWs ws (v :: vs) else if cmpW w v > 0 then v :: joinWs (w :: ws) vs else .mk w.s w.l (joinTr w.t v.t) :: joinWs ws vs := by
  unfold joinWs joinTr
  have h : szWs (w :: ws) + szWs (v :: vs) = (1 + szT w.t + szWs ws + (szT v.t + szWs vs)) + 1 := by rw [szWs_cons, szWs_cons]; omega
  rw [h]
  simp only [joinW]
  rw [(join_fuel _ (szWs ws + szWs (v :: vs))).2 ws (v :: vs) (by rw [szWs_cons]; omega) (Nat.le_refl _), (join_fuel _ (szWs (w :: ws) + szWs vs)).2 (w :: ws) vs (by rw [szWs_cons]; omega) (Nat.le_refl _),
    (join_fuel _ (szWs ws + szWs vs)).2 ws vs (by omega) (Nat.le_refl _), (join_fuel _ (szT w.t + szT v.t)).1 w.t v.t (by omega) (Nat.le_refl _)]

/-! The order of frames. -/
theorem cmpI_neg (a b : Int) : cmpI a b = -cmpI b a := by unfold cmpI; split <;> split <;> (try split) <;> omega
theorem cmpI_val (a b : Int) : (cmpI a b = -1 ∧ a < b) ∨ (cmpI a b = 0 ∧ a = b) ∨ (cmpI a b = 1 ∧ a > b) := by unfold cmpI; split <;> (try split) <;> omega
theorem cmpF_val (s l s' l' : Int) : (cmpF s l s' l' = -1 ∧ (s < s' ∨ s = s' ∧ l < l')) ∨ (cmpF s l s' l' = 0 ∧ s = s' ∧ l = l') ∨ (cmpF s l s' l' = 1 ∧ (s > s' ∨ s = s' ∧ l > l')) := by
  unfold cmpF
  rcases cmpI_val s s' with ⟨h1, h2⟩ | ⟨h1, h2⟩ | ⟨h1, h2⟩ <;> rcases cmpI_val l l' with ⟨h3, h4⟩ | ⟨h3, h4⟩ | ⟨h3, h4⟩ <;> rw [h1, h3] <;> simp <;> omega
def ltW (v w : Wy) : Prop := v.s < w.s ∨ v.s = w.s ∧ v.l < w.l
theorem cmpW_lt {v w : Wy} : cmpW v w < 0 ↔ ltW v w := by unfold cmpW ltW; rcases cmpF_val v.s v.l w.s w.l with h | h | h <;> omega
theorem cmpW_gt {v w : Wy} : cmpW v w > 0 ↔ ltW w v := by unfold cmpW ltW; rcases cmpF_val v.s v.l w.s w.l with h | h | h <;> omega
theorem ltW_trans {a b c : Wy} (h : ltW a b) (k : ltW b c) : ltW a c := by unfold ltW at *; omega
theorem ltW_irr {a : Wy} (h : ltW a a) : False := by unfold ltW at h; omega
theorem ltW_tri (a b : Wy) : ltW a b ∨ (a.s = b.s ∧ a.l = b.l) ∨ ltW b a := by unfold ltW; omega
theorem Wy.eta (w : Wy) : Wy.mk w.s w.l w.t = w := by cases w; rfl
theorem Wy.ext' {v w : Wy} (h1 : v.s = w.s) (h2 : v.l = w.l) (h3 : v.t = w.t) : v = w := by cases v; cases w; simp_all [Wy.s, Wy.l, Wy.t]

/-! Trees of which the ways rise. -/
def Srt : List Wy → Prop
  | [] => True
  | w :: ws => (∀ v ∈ ws, ltW w v) ∧ Srt ws
inductive Wf : Tr → Prop
  | mk {b : Bool} {ws : List Wy} : Srt ws → (∀ w ∈ ws, Wf w.t) → (b = true ∨ ws ≠ []) → Wf (.mk b ws)
theorem Wf.srt {b : Bool} {ws : List Wy} (h : Wf (.mk b ws)) : Srt ws := by cases h; assumption
theorem Wf.kid {b : Bool} {ws : List Wy} (h : Wf (.mk b ws)) : ∀ w ∈ ws, Wf w.t := by cases h; assumption
theorem Wf.full {b : Bool} {ws : List Wy} (h : Wf (.mk b ws)) : b = true ∨ ws ≠ [] := by cases h; assumption

def findW (s l : Int) : List Wy → Option Tr
  | [] => none
  | w :: ws => if w.s = s ∧ w.l = l then some w.t else findW s l ws
theorem findW_none {s l : Int} {ws : List Wy} (h : ∀ w ∈ ws, ¬ (w.s = s ∧ w.l = l)) : findW s l ws = none := by
  induction ws with
  | nil => rfl
  | cons w ws ih => simp only [findW, if_neg (h w (by simp))]; exact ih fun v hv => h v (by simp [hv])
theorem findW_mem {s l : Int} {ws : List Wy} {t : Tr} (h : findW s l ws = some t) : ∃ w ∈ ws, w.s = s ∧ w.l = l ∧ w.t = t := by
  induction ws with
  | nil => cases h
  | cons w ws ih =>
    simp only [findW] at h
    split at h
    · rename_i q; cases h; exact ⟨w, by simp, q.1, q.2, rfl⟩
    · obtain ⟨v, h1, h2⟩ := ih h; exact ⟨v, by simp [h1], h2⟩
theorem findW_lt {s l : Int} {w : Wy} {ws : List Wy} (h : ∀ v ∈ ws, ltW w v) (k : s < w.s ∨ s = w.s ∧ l ≤ w.l) : findW s l ws = none := findW_none fun v hv q => by
  have := h v hv; unfold ltW at this; omega
theorem findW_head {w : Wy} {ws : List Wy} : findW w.s w.l (w :: ws) = some w.t := by simp [findW]

theorem Srt.ext : ∀ {ws vs : List Wy}, Srt ws → Srt vs → (∀ s l, findW s l ws = findW s l vs) → ws = vs
  | [], [], _, _, _ => rfl
  | [], v :: vs, _, _, h => by have := h v.s v.l; rw [findW_head] at this; cases this
  | w :: ws, [], _, _, h => by have := h w.s w.l; rw [findW_head] at this; cases this
  | w :: ws, v :: vs, hw, hv, h => by
    have same : w.s = v.s ∧ w.l = v.l := by
      rcases ltW_tri w v with q | q | q
      · have := h w.s w.l
        rw [findW_head, findW_none (ws := v :: vs)] at this
        · cases this
        · intro x hx e
          have hlt : ltW w x := by
            rcases List.mem_cons.1 hx with rfl | hx
            · exact q
            · exact ltW_trans q (hv.1 x hx)
          unfold ltW at hlt; omega
      · exact q
      · have := h v.s v.l
        rw [findW_head, findW_none (ws := w :: ws)] at this
        · cases this
        · intro x hx e
          have hlt : ltW v x := by
            rcases List.mem_cons.1 hx with rfl | hx
            · exact q
            · exact ltW_trans q (hw.1 x hx)
          unfold ltW at hlt; omega
    have ht : w.t = v.t := by
      have := h w.s w.l
      rw [findW_head] at this
      rw [same.1, same.2, findW_head] at this
      exact Option.some.inj this
    have hwv : w = v := Wy.ext' same.1 same.2 ht
    subst hwv
    congr 1
    refine Srt.ext hw.2 hv.2 fun s l => ?_
    by_cases q : w.s = s ∧ w.l = l
    · rw [findW_lt hw.1 (by omega), findW_lt hv.1 (by omega)]
    · have := h s l
      simpa only [findW, if_neg q] using this

def comb : Option Tr → Option Tr → Option Tr
  | none, y => y
  | some x, none => some x
  | some x, some y => some (joinTr x y)
theorem comb_none (x : Option Tr) : comb x none = x := by cases x <;> rfl
theorem join_srt : ∀ {ws vs : List Wy}, Srt ws → Srt vs → Srt (joinWs ws vs) ∧ (∀ x ∈ joinWs ws vs, ∃ y, (y ∈ ws ∨ y ∈ vs) ∧ x.s = y.s ∧ x.l = y.l) ∧ ∀ s l, findW s l (joinWs ws vs) = comb (findW s l ws) (findW s l vs)
  | [], vs, _, hv => by
    rw [joinWs_nil_left]
    exact ⟨hv, fun x hx => ⟨x, .inr hx, rfl, rfl⟩, fun s l => rfl⟩
  | w :: ws, [], hw, _ => by
    rw [joinWs_nil_right]
    exact ⟨hw, fun x hx => ⟨x, .inl hx, rfl, rfl⟩, fun s l => (comb_none _).symm⟩
  | w :: ws, v :: vs, hw, hv => by
    rw [joinWs_cons]
    rcases ltW_tri w v with q | q | q
    · rw [if_pos (cmpW_lt.2 q)]
      obtain ⟨i1, i2, i3⟩ := join_srt hw.2 hv
      refine ⟨⟨fun x hx => ?_, i1⟩, fun x hx => ?_, fun s l => ?_⟩
      · obtain ⟨y, hy, e1, e2⟩ := i2 x hx
        have : ltW w y := by
          rcases hy with hy | hy
          · exact hw.1 y hy
          · rcases List.mem_cons.1 hy with rfl | hy
            · exact q
            · exact ltW_trans q (hv.1 y hy)
        unfold ltW at *; omega
      · rcases List.mem_cons.1 hx with rfl | hx
        · exact ⟨x, .inl (by simp), rfl, rfl⟩
        · obtain ⟨y, hy, e⟩ := i2 x hx
          exact ⟨y, hy.imp (fun h => by simp [h]) id, e⟩
      · by_cases e : w.s = s ∧ w.l = l
        · simp only [findW, if_pos e]
          have : findW s l (v :: vs) = none := findW_none fun x hx e' => by
            have hlt : ltW w x := by
              rcases List.mem_cons.1 hx with rfl | hx
              · exact q
              · exact ltW_trans q (hv.1 x hx)
            unfold ltW at hlt; omega
          simp only [findW] at this
          rw [this]; rfl
        · simp only [findW, if_neg e]
          have := i3 s l
          simpa only [findW] using this
    · have n1 : ¬ cmpW w v < 0 := fun h => by have := cmpW_lt.1 h; unfold ltW at this; omega
      have n2 : ¬ cmpW w v > 0 := fun h => by have := cmpW_gt.1 h; unfold ltW at this; omega
      rw [if_neg n1, if_neg n2]
      obtain ⟨i1, i2, i3⟩ := join_srt hw.2 hv.2
      refine ⟨⟨fun x hx => ?_, i1⟩, fun x hx => ?_, fun s l => ?_⟩
      · obtain ⟨y, hy, e1, e2⟩ := i2 x hx
        rcases hy with hy | hy
        · have := hw.1 y hy; unfold ltW at *; simp only [Wy.s, Wy.l] at *; omega
        · have := hv.1 y hy; unfold ltW at *; simp only [Wy.s, Wy.l] at *; omega
      · rcases List.mem_cons.1 hx with rfl | hx
        · exact ⟨w, .inl (by simp), rfl, rfl⟩
        · obtain ⟨y, hy, e⟩ := i2 x hx
          exact ⟨y, hy.imp (fun h => by simp [h]) (fun h => by simp [h]), e⟩
      · by_cases e : w.s = s ∧ w.l = l
        · have e' : v.s = s ∧ v.l = l := by omega
          simp only [findW, if_pos e, if_pos e']
          exact if_pos e
        · have e' : ¬ (v.s = s ∧ v.l = l) := by omega
          simp only [findW, if_neg e, if_neg e']
          exact (if_neg e).trans (i3 s l)
    · have n1 : ¬ cmpW w v < 0 := fun h => by have := cmpW_lt.1 h; unfold ltW at *; omega
      rw [if_neg n1, if_pos (cmpW_gt.2 q)]
      obtain ⟨i1, i2, i3⟩ := join_srt hw hv.2
      refine ⟨⟨fun x hx => ?_, i1⟩, fun x hx => ?_, fun s l => ?_⟩
      · obtain ⟨y, hy, e1, e2⟩ := i2 x hx
        have : ltW v y := by
          rcases hy with hy | hy
          · rcases List.mem_cons.1 hy with rfl | hy
            · exact q
            · exact ltW_trans q (hw.1 y hy)
          · exact hv.1 y hy
        unfold ltW at *; omega
      · rcases List.mem_cons.1 hx with rfl | hx
        · exact ⟨x, .inr (by simp), rfl, rfl⟩
        · obtain ⟨y, hy, e⟩ := i2 x hx
          exact ⟨y, hy.imp id (fun h => by simp [h]), e⟩
      · by_cases e : v.s = s ∧ v.l = l
        · simp only [findW, if_pos e]
          have : findW s l (w :: ws) = none := findW_none fun x hx e' => by
            have hlt : ltW v x := by
              rcases List.mem_cons.1 hx with rfl | hx
              · exact q
              · exact ltW_trans q (hw.1 x hx)
            unfold ltW at hlt; omega
          simp only [findW] at this
          rw [this]; rfl
        · simp only [findW, if_neg e]
          have := i3 s l
          simpa only [findW] using this
termination_by ws vs => ws.length + vs.length
end Go.Ab
end

section
namespace Go.Ab
set_option linter.unusedSimpArgs false
set_option linter.unusedVariables false

theorem joinWs_full {ws vs : List Wy} (hw : Srt ws) (hv : Srt vs) (h : ws ≠ [] ∨ vs ≠ []) : joinWs ws vs ≠ [] := by
  intro e
  obtain ⟨_, _, i3⟩ := join_srt hw hv
  rw [e] at i3
  rcases h with h | h
  · cases ws with
    | nil => exact h rfl
    | cons w ws =>
      have := i3 w.s w.l
      rw [findW_head] at this
      cases q : findW w.s w.l vs <;> rw [q] at this <;> cases this
  · cases vs with
    | nil => exact h rfl
    | cons w vs =>
      have := i3 w.s w.l
      rw [findW_head] at this
      cases q : findW w.s w.l ws <;> rw [q] at this <;> cases this
theorem findW_of_mem {ws : List Wy} (h : Srt ws) {w : Wy} (hw : w ∈ ws) : findW w.s w.l ws = some w.t := by
  induction ws with
  | nil => cases hw
  | cons v ws ih =>
    rcases List.mem_cons.1 hw with rfl | hw
    · exact findW_head
    · have := h.1 w hw
      have hne : ¬ (v.s = w.s ∧ v.l = w.l) := by unfold ltW at this; omega
      simp only [findW, if_neg hne]
      exact ih h.2 hw

theorem join_wf : ∀ {a b : Tr}, Wf a → Wf b → Wf (joinTr a b)
  | .mk b ws, .mk c vs, ha, hb => by
    rw [joinTr_mk]
    obtain ⟨i1, i2, i3⟩ := join_srt ha.srt hb.srt
    refine .mk i1 (fun x hx => ?_) ?_
    · have h1 := findW_of_mem i1 hx
      rw [i3] at h1
      cases p : findW x.s x.l ws with
      | none =>
        rw [p] at h1
        obtain ⟨y, hy, _, _, e⟩ := findW_mem h1
        rw [← e]; exact hb.kid y hy
      | some t =>
        obtain ⟨y, hy, _, _, e⟩ := findW_mem p
        cases q : findW x.s x.l vs with
        | none => rw [p, q] at h1; cases h1; rw [← e]; exact ha.kid y hy
        | some u =>
          rw [p, q] at h1
          obtain ⟨z, hz, _, _, e'⟩ := findW_mem q
          have : szT t < szWs ws := by rw [← e]; exact szWs_mem hy
          have h2 : joinTr t u = x.t := Option.some.inj h1
          rw [← h2]
          exact join_wf (by rw [← e]; exact ha.kid y hy) (by rw [← e']; exact hb.kid z hz)
    · rcases ha.full with h | h
      · exact .inl (by simp [h])
      · exact .inr (joinWs_full ha.srt hb.srt (.inl h))
termination_by a => szT a
decreasing_by rw [szT_eq]; omega

theorem join_comm : ∀ {a b : Tr}, Wf a → Wf b → joinTr a b = joinTr b a
  | .mk b ws, .mk c vs, ha, hb => by
    rw [joinTr_mk, joinTr_mk, Bool.or_comm]
    congr 1
    obtain ⟨i1, _, i3⟩ := join_srt ha.srt hb.srt
    obtain ⟨j1, _, j3⟩ := join_srt hb.srt ha.srt
    refine Srt.ext i1 j1 fun s l => ?_
    rw [i3, j3]
    cases p : findW s l ws with
    | none => rw [comb_none]; rfl
    | some t =>
      cases q : findW s l vs with
      | none => rfl
      | some u =>
        obtain ⟨y, hy, _, _, e⟩ := findW_mem p
        obtain ⟨z, hz, _, _, e'⟩ := findW_mem q
        have : szT t < szWs ws := by rw [← e]; exact szWs_mem hy
        simp only [comb]
        rw [join_comm (a := t) (b := u) (by rw [← e]; exact ha.kid y hy) (by rw [← e']; exact hb.kid z hz)]
termination_by a => szT a
decreasing_by rw [szT_eq]; omega

theorem join_idem : ∀ {a : Tr}, Wf a → joinTr a a = a
  | .mk b ws, ha => by
    rw [joinTr_mk, Bool.or_self]
    congr 1
    obtain ⟨i1, _, i3⟩ := join_srt ha.srt ha.srt
    refine Srt.ext i1 ha.srt fun s l => ?_
    rw [i3]
    cases p : findW s l ws with
    | none => rfl
    | some t =>
      obtain ⟨y, hy, _, _, e⟩ := findW_mem p
      have : szT t < szWs ws := by rw [← e]; exact szWs_mem hy
      simp only [comb]
      rw [join_idem (a := t) (by rw [← e]; exact ha.kid y hy)]
termination_by a => szT a
decreasing_by rw [szT_eq]; omega

theorem join_assoc : ∀ {a b c : Tr}, Wf a → Wf b → Wf c → joinTr (joinTr a b) c = joinTr a (joinTr b c)
  | .mk b ws, .mk c vs, .mk d us, ha, hb, hc => by
    rw [joinTr_mk, joinTr_mk, joinTr_mk, joinTr_mk, Bool.or_assoc]
    congr 1
    obtain ⟨i1, _, i3⟩ := join_srt ha.srt hb.srt
    obtain ⟨j1, _, j3⟩ := join_srt hb.srt hc.srt
    obtain ⟨k1, _, k3⟩ := join_srt i1 hc.srt
    obtain ⟨m1, _, m3⟩ := join_srt ha.srt j1
    refine Srt.ext k1 m1 fun s l => ?_
    rw [k3, m3, i3, j3]
    cases p : findW s l ws with
    | none => rfl
    | some t =>
      cases q : findW s l vs with
      | none => rfl
      | some u =>
        cases r : findW s l us with
        | none => rfl
        | some v =>
          obtain ⟨y, hy, _, _, e⟩ := findW_mem p
          obtain ⟨z, hz, _, _, e'⟩ := findW_mem q
          obtain ⟨x, hx, _, _, e''⟩ := findW_mem r
          have : szT t < szWs ws := by rw [← e]; exact szWs_mem hy
          simp only [comb]
          rw [join_assoc (a := t) (b := u) (c := v) (by rw [← e]; exact ha.kid y hy) (by rw [← e']; exact hb.kid z hz) (by rw [← e'']; exact hc.kid x hx)]
termination_by a => szT a
decreasing_by rw [szT_eq]; omega

/-! Sets that may be none. -/
def WfO (o : Option Tr) : Prop := ∀ t, o = some t → Wf t
theorem WfO.none : WfO none := fun t h => by cases h
theorem WfO.some {t : Tr} (h : Wf t) : WfO (some t) := fun u e => by cases e; exact h
theorem WfO.comb {a b : Option Tr} (ha : WfO a) (hb : WfO b) : WfO (comb a b) := by
  cases a with
  | none => exact hb
  | some x =>
    cases b with
    | none => exact ha
    | some y => exact .some (join_wf (ha x rfl) (hb y rfl))
theorem comb_comm {a b : Option Tr} (ha : WfO a) (hb : WfO b) : comb a b = comb b a := by
  cases a with
  | none => exact (comb_none b).symm
  | some x =>
    cases b with
    | none => rfl
    | some y => simp only [comb]; rw [join_comm (ha x rfl) (hb y rfl)]
theorem comb_idem {a : Option Tr} (ha : WfO a) : comb a a = a := by
  cases a with
  | none => rfl
  | some x => simp only [comb]; rw [join_idem (ha x rfl)]
theorem comb_assoc {a b c : Option Tr} (ha : WfO a) (hb : WfO b) (hc : WfO c) : comb (comb a b) c = comb a (comb b c) := by
  cases a with
  | none => rfl
  | some x =>
    cases b with
    | none => rfl
    | some y =>
      cases c with
      | none => rfl
      | some z => simp only [comb]; rw [join_assoc (ha x rfl) (hb y rfl) (hc z rfl)]
def pushO (s l : Int) : Option Tr → Option Tr
  | none => none
  | some t => some (.mk false [.mk s l t])
def belowO (s l : Int) : Option Tr → Option Tr
  | none => none
  | some t => findW s l t.ws
def bareO : Option Tr → Bool
  | none => false
  | some t => t.bare
theorem WfO.push {s l : Int} {a : Option Tr} (h : WfO a) : WfO (pushO s l a) := by
  cases a with
  | none => exact .none
  | some t => exact .some (.mk ⟨fun v hv => (by cases hv), trivial⟩ (fun w hw => by rcases List.mem_singleton.1 hw with rfl; exact h t rfl) (.inr (by simp)))
theorem WfO.below {s l : Int} {a : Option Tr} (h : WfO a) : WfO (belowO s l a) := fun u e => by
  cases a with
  | none => cases e
  | some t =>
    obtain ⟨b, ws⟩ := t
    obtain ⟨w, hw, _, _, q⟩ := findW_mem (show findW s l ws = Option.some u from e)
    rw [← q]; exact (h _ rfl).kid w hw
theorem push_comb (s l : Int) (a b : Option Tr) : pushO s l (comb a b) = comb (pushO s l a) (pushO s l b) := by
  cases a with
  | none => rfl
  | some x =>
    cases b with
    | none => rfl
    | some y =>
      simp only [comb, pushO]
      rw [joinTr_mk, joinWs_cons, if_neg, if_neg, joinWs_nil_left]
      · rfl
      · intro h; exact ltW_irr (a := .mk s l x) (by have := cmpW_gt.1 h; unfold ltW at *; simp [Wy.s, Wy.l] at this)
      · intro h; exact ltW_irr (a := .mk s l x) (by have := cmpW_lt.1 h; unfold ltW at *; simp [Wy.s, Wy.l] at this)
theorem below_push (s l : Int) (a : Option Tr) : belowO s l (pushO s l a) = a := by
  cases a with
  | none => rfl
  | some x => exact if_pos ⟨rfl, rfl⟩

/-- A part of a set: its first ways. -/
def partO (b : Bool) (ws : List Wy) : Option Tr := if b = false ∧ ws = [] then none else some (.mk b ws)
theorem joinWs_snoc : ∀ {ws : List Wy} {w : Wy}, (∀ x ∈ ws, ltW x w) → joinWs ws [w] = ws ++ [w]
  | [], w, _ => by rw [joinWs_nil_left]; rfl
  | v :: ws, w, h => by rw [joinWs_cons, if_pos (cmpW_lt.2 (h v (by simp))), joinWs_snoc fun x hx => h x (by simp [hx])]; rfl
theorem part_next {b : Bool} {ws : List Wy} {w : Wy} (h : ∀ x ∈ ws, ltW x w) : comb (partO b ws) (some (.mk false [w])) = partO b (ws ++ [w]) := by
  unfold partO
  by_cases q : b = false ∧ ws = []
  · obtain ⟨rfl, rfl⟩ := q
    simp [comb]
  · rw [if_neg q, if_neg (by simp)]
    simp only [comb]
    rw [joinTr_mk, joinWs_snoc h, Bool.or_false]
theorem Srt.take_lt : ∀ {ws : List Wy} {k : Nat} {w : Wy}, Srt ws → ws[k]? = some w → ∀ x ∈ ws.take k, ltW x w
  | v :: ws, 0, w, h, e, x, hx => by simp at hx
  | v :: ws, k + 1, w, h, e, x, hx => by
    simp only [List.take_succ_cons, List.mem_cons] at hx
    rcases hx with rfl | hx
    · exact h.1 w (List.mem_of_getElem? (by simpa using e))
    · exact Srt.take_lt h.2 (by simpa using e) x hx
theorem part_all {t : Tr} (h : Wf t) : partO t.bare t.ws = some t := by
  obtain ⟨b, ws⟩ := t
  unfold partO
  rw [if_neg]
  · rfl
  · rintro ⟨h1, h2⟩
    rcases h.full with q | q
    · simp only [Tr.bare] at h1; rw [q] at h1; cases h1
    · exact q h2
end Go.Ab
end

section
namespace Go.Proofs.Ytfnmdmadaljjkaa
open Go Go.Ab
set_option linter.unusedSimpArgs false
set_option linter.unusedVariables false
set_option maxRecDepth 20000

theorem i64w {n : Int} (h : -9223372036854775808 ≤ n) (k : n ≤ 9223372036854775807) : IntKind.i64.wrap n = n := IntWalk.i64_in n ⟨h, k⟩
theorem mixed : Try.prog.follows .mixedOrders = true := by decide
theorem ret1 {σ : St} {h : Hp} {v : AV} {N : Nat} (t : Nat) (ho : Own h) (hN : h.nx = N) (hle : N ≤ σ.hp.nx) (hv : lk σ.slots t = some v) (hp : Rn id N v v) (hb : ∀ p ∈ h.boxes, lk σ.hp.boxes p.1 = some p.2) (ht : ∀ p ∈ h.toks, lk σ.hp.toks p.1 = some p.2) :
    ∃ σ', St.cp N σ σ' ∧ resK (resOf Try.prog σ' [.tmp t]) (fun r h' => r = v ∧ h' = h) σ'.hp := retC_one t ho hN hle hv hp hb ht
theorem map_getD {T : Type} (f : T → List AV) {l : List T} {i : Nat} {x : T} (h : l[i]? = some x) : (l.map f).getD i [] = f x := by simp [List.getD_eq_getElem?_getD, h]
theorem pure_rows {T : Type} {f : T → List AV} (h : ∀ t, ∀ c ∈ f t, Ab.Pure c) (l : List T) : ∀ x ∈ l.map f, ∀ c ∈ x, Ab.Pure c := fun x hx => by
  obtain ⟨t, _, rfl⟩ := List.mem_map.1 hx; exact h t

/-- A row that is being made: none yet, or an owned one. -/
def grA (t : Nat) : List (List AV) → AV
  | [] => .vec [] true
  | _ :: l => .own t (l.length + 1)
def grT (t s : Nat) : List (List AV) → List (Nat × Tk)
  | [] => []
  | x :: l => [(t, ⟨x :: l, 0, s⟩)]
def grN (t : Nat) : List (List AV) → Nat
  | [] => t
  | _ :: _ => t + 1

theorem fits_of' {n b : Nat} (h : n ≤ 2000000000) (k : n * b ≤ 140737488355328) : fits n b := ⟨Nat.le_trans h (by decide), k⟩

theorem lk_app {α : Type} : ∀ (l m : List (Nat × α)) (i : Nat), lk (l ++ m) i = (lk l i).or (lk m i)
  | [], m, i => by simp [lk]
  | (j, x) :: l, m, i => by
    simp only [List.cons_append, lk]
    split
    · rfl
    · exact lk_app l m i
theorem lk_grT {t s : Nat} {rows : List (List AV)} {i : Nat} {k : Tk} (h : lk (grT t s rows) i = some k) : i = t ∧ k = ⟨rows, 0, s⟩ ∧ rows ≠ [] := by
  cases rows with
  | nil => cases h
  | cons x l =>
    simp only [grT, lk] at h
    split at h
    · rename_i q; cases h; exact ⟨q.symm, rfl, by simp⟩
    · cases h
theorem lk_grT' {t s : Nat} {rows : List (List AV)} (h : rows ≠ []) : lk (grT t s rows) t = some ⟨rows, 0, s⟩ := by
  cases rows with
  | nil => exact absurd rfl h
  | cons x l => simp [grT, lk]
theorem lk_grT_ne {t s : Nat} {rows : List (List AV)} {i : Nat} (h : i ≠ t) : lk (grT t s rows) i = none := by
  cases rows with
  | nil => rfl
  | cons x l => simp only [grT, lk]; rw [if_neg (Ne.symm h)]

theorem St.wk_skip {sl : List (Nat × AV)} {B : List (Nat × List AV)} {L : List (Nat × Tk)} {n k : Nat} : St.wk ⟨sl, ⟨B, L, n⟩, k⟩ ⟨sl, ⟨B, L, n + 1⟩, k⟩ :=
  fun g0 h0 w0 g w a r => ⟨g.skip 1, ⟨r.st.hp.skip, r.st.ext.trans (Ext.skip _ 1), r.st.keeps, fun b l => r.st.live b (by
    rcases l with ⟨i, cs, f1, f2⟩ | ⟨i, k1, c1, n1, f1, f2⟩ | f1
    · exact .inl ⟨i, cs, f1, f2⟩
    · exact .inr (.inl ⟨i, k1, c1, n1, f1, f2⟩)
    · exact .inr (.inr f1)), r.st.memo⟩, fun s v e => (by obtain ⟨u, e1, e2⟩ := r.slots s v e; exact ⟨u, e1, e2.mono (Ext.skip _ 1)⟩), r.nt, r.defers⟩

theorem rn_gr {ρ : Nat → Nat} {n t t' : Nat} {rows : List (List AV)} (h : rows ≠ [] → t < n ∧ ρ t = t') : Rn ρ n (grA t rows) (grA t' rows) := by
  cases rows with
  | nil => exact .pure (.vec (by simp))
  | cons x l => obtain ⟨h1, h2⟩ := h (by simp); exact .own h1 h2

theorem grA_nil {t : Nat} : grA t [] = .vec [] true := rfl
theorem grA_cons {t : Nat} {x : List AV} {l : List (List AV)} : grA t (x :: l) = .own t (l.length + 1) := rfl
theorem grT_nil {t s : Nat} : grT t s [] = [] := rfl
theorem grT_cons {t s : Nat} {x : List AV} {l : List (List AV)} : grT t s (x :: l) = [(t, ⟨x :: l, 0, s⟩)] := rfl
theorem mem_grT {t s : Nat} {rows : List (List AV)} {p : Nat × Tk} (h : p ∈ grT t s rows) : p = (t, ⟨rows, 0, s⟩) ∧ rows ≠ [] := by
  cases rows with
  | nil => cases h
  | cons x l => simp only [grT, List.mem_singleton] at h; exact ⟨h, by simp⟩
theorem expo_gr2 {h : Hp} {t s : Nat} {rows : List (List AV)} (hp : ∀ x ∈ rows, ∀ c ∈ x, Ab.Pure c) (ht : rows ≠ [] → lk h.toks t = some ⟨rows, 0, s⟩) : Expo h (grA t rows) (.vec rows false) := by
  cases rows with
  | nil => exact expo_full (by simp)
  | cons x l => exact expo_own (ht (by simp)) rfl hp
theorem St.wk_slots1 {σ : St} {sl : List (Nat × AV)} {bx : List (Nat × List AV)} {tk : List (Nat × Tk)} (hs : ∀ p ∈ sl, lk σ.slots p.1 = some p.2) (hb : ∀ p ∈ bx, lk σ.hp.boxes p.1 = some p.2) (ht : ∀ t, lk σ.hp.toks t = lk tk t) :
    St.wk σ ⟨sl, ⟨bx, tk, σ.hp.nx⟩, σ.nt⟩ :=
  fun g0 h0 w0 g w a r => ⟨g, ⟨r.st.less rfl (fun i c e => hb _ (lk_mem e)) (fun i c e => (ht i).trans e), fun s v e => r.slots s v (hs _ (lk_mem e)), r.nt, r.defers⟩⟩
end Go.Proofs.Ytfnmdmadaljjkaa
end

section
namespace Go.Proofs.Ytfnmdmadaljjkaa
open Go.Ab
set_option linter.unusedSimpArgs false
set_option linter.unusedVariables false
set_option maxRecDepth 20000

theorem spec52 (a : Int) : PCall Try.prog 52 [.lit (.int .i64 a)] (.lit (.bool false)) := by
  refine PCall_intro Try.func52 rfl Try.ntmps52 (rs := [.tmp 2]) rfl (by simp) ?_
  simp only [awl, ne_eq, srcRows, awo, aggEq, eqF, litEq, andO, qwl, qwo, Go.Ab.qOp, lop, oneK, stepOp, pairO, pureOp, heapOp, entry, slotsOf, ev, evL, evP, evO, lk, up, St.put, St.drop, constAV, cellAV, cellsAV, plain, binV, nilCmp, intBin, strBin, guardBit, boolOf, fnOf, intOfAV, bound, resOf, retV, moved, rowOf, valAt, Kd.agg, AV.cells, splice, places, fillAV, rowsFill, Hp.none, ↓reduceIte, reduceCtorEq, Nat.reduceLT, Nat.reduceEqDiff, Nat.reduceAdd, Nat.reduceLeDiff, Nat.reducePow, Nat.reduceMul, Yzz, Xzz, Yzy, tyW, bne_self_eq_false]
  exact expo_pure (.lit _)
theorem spec37 (a b : Int) : PCall Try.prog 37 [.lit (.int .i64 a), .lit (.int .i64 b)] (.lit (.int .i64 (cmpI a b))) := by
  refine PCall_intro Try.func37 rfl Try.ntmps37 (rs := [.tmp 4]) rfl (by simp) ?_
  simp only [awl, ne_eq, srcRows, awo, aggEq, eqF, litEq, andO, qwl, qwo, Go.Ab.qOp, lop, oneK, stepOp, pairO, pureOp, heapOp, entry, slotsOf, ev, evL, evP, evO, lk, up, St.put, St.drop, constAV, cellAV, cellsAV, plain, binV, nilCmp, intBin, strBin, guardBit, boolOf, fnOf, intOfAV, bound, resOf, retV, moved, rowOf, valAt, Kd.agg, AV.cells, splice, places, fillAV, rowsFill, Hp.none, ↓reduceIte, reduceCtorEq, Nat.reduceLT, Nat.reduceEqDiff, Nat.reduceAdd, Nat.reduceLeDiff, Nat.reducePow, Nat.reduceMul, Yzz, Xzz, Yzy, tyW]
  refine CallK_pure call52 (spec52 a) (by simp [Pure.lit]) (.lit _) ?_
  simp only [awl, ne_eq, srcRows, awo, aggEq, eqF, litEq, andO, qwl, qwo, Go.Ab.qOp, lop, oneK, stepOp, pairO, pureOp, heapOp, entry, slotsOf, ev, evL, evP, evO, lk, up, St.put, St.drop, constAV, cellAV, cellsAV, plain, binV, nilCmp, intBin, strBin, guardBit, boolOf, fnOf, intOfAV, bound, resOf, retV, moved, rowOf, valAt, Kd.agg, AV.cells, splice, places, fillAV, rowsFill, Hp.none, ↓reduceIte, reduceCtorEq, Nat.reduceLT, Nat.reduceEqDiff, Nat.reduceAdd, Nat.reduceLeDiff, Nat.reducePow, Nat.reduceMul, Yzz, Xzz, Yzy, tyW]
  refine CallK_pure call52 (spec52 b) (by simp [Pure.lit]) (.lit _) ?_
  simp only [awl, ne_eq, srcRows, awo, aggEq, eqF, litEq, andO, qwl, qwo, Go.Ab.qOp, lop, oneK, stepOp, pairO, pureOp, heapOp, entry, slotsOf, ev, evL, evP, evO, lk, up, St.put, St.drop, constAV, cellAV, cellsAV, plain, binV, nilCmp, intBin, strBin, guardBit, boolOf, fnOf, intOfAV, bound, resOf, retV, moved, rowOf, valAt, Kd.agg, AV.cells, splice, places, fillAV, rowsFill, Hp.none, ↓reduceIte, reduceCtorEq, Nat.reduceLT, Nat.reduceEqDiff, Nat.reduceAdd, Nat.reduceLeDiff, Nat.reducePow, Nat.reduceMul, Yzz, Xzz, Yzy, tyW]
  rcases cmpI_val a b with ⟨h1, h2⟩ | ⟨h1, h2⟩ | ⟨h1, h2⟩ <;> rw [h1]
  · simp only [awl, ne_eq, srcRows, awo, aggEq, eqF, litEq, andO, qwl, qwo, Go.Ab.qOp, lop, oneK, stepOp, pairO, pureOp, heapOp, entry, slotsOf, ev, evL, evP, evO, lk, up, St.put, St.drop, constAV, cellAV, cellsAV, plain, binV, nilCmp, intBin, strBin, guardBit, boolOf, fnOf, intOfAV, bound, resOf, retV, moved, rowOf, valAt, Kd.agg, AV.cells, splice, places, fillAV, rowsFill, Hp.none, ↓reduceIte, reduceCtorEq, Nat.reduceLT, Nat.reduceEqDiff, Nat.reduceAdd, Nat.reduceLeDiff, Nat.reducePow, Nat.reduceMul, Yzz, Xzz, Yzy, tyW, h2, decide_true]
    exact expo_pure (.lit _)
  · subst h2
    simp only [awl, ne_eq, srcRows, awo, aggEq, eqF, litEq, andO, qwl, qwo, Go.Ab.qOp, lop, oneK, stepOp, pairO, pureOp, heapOp, entry, slotsOf, ev, evL, evP, evO, lk, up, St.put, St.drop, constAV, cellAV, cellsAV, plain, binV, nilCmp, intBin, strBin, guardBit, boolOf, fnOf, intOfAV, bound, resOf, retV, moved, rowOf, valAt, Kd.agg, AV.cells, splice, places, fillAV, rowsFill, Hp.none, ↓reduceIte, reduceCtorEq, Nat.reduceLT, Nat.reduceEqDiff, Nat.reduceAdd, Nat.reduceLeDiff, Nat.reducePow, Nat.reduceMul, Yzz, Xzz, Yzy, tyW, Int.lt_irrefl, decide_false]
    exact expo_pure (.lit _)
  · have h3 : ¬ a < b := by omega
    have h4 : b < a := by omega
    simp only [awl, ne_eq, srcRows, awo, aggEq, eqF, litEq, andO, qwl, qwo, Go.Ab.qOp, lop, oneK, stepOp, pairO, pureOp, heapOp, entry, slotsOf, ev, evL, evP, evO, lk, up, St.put, St.drop, constAV, cellAV, cellsAV, plain, binV, nilCmp, intBin, strBin, guardBit, boolOf, fnOf, intOfAV, bound, resOf, retV, moved, rowOf, valAt, Kd.agg, AV.cells, splice, places, fillAV, rowsFill, Hp.none, ↓reduceIte, reduceCtorEq, Nat.reduceLT, Nat.reduceEqDiff, Nat.reduceAdd, Nat.reduceLeDiff, Nat.reducePow, Nat.reduceMul, Yzz, Xzz, Yzy, tyW, h3, h4, decide_true, decide_false]
    exact expo_pure (.lit _)
def orV (x y : Int) : AV := .vec [[.lit (.int .i64 x)], [.lit (.int .i64 y)]] true
def orS (x y : Int) (i : Nat) : St := ⟨[(8, .lit (.int .i64 (i : Int))), (7, .lit (.int .i64 (2 : Nat))), (6, orV x y), (3, .lit (.int .i64 0)), (0, orV x y)], ⟨[], [], 0⟩, 18⟩
theorem or_spec (x y : Int) : PCall Try.prog 36 [orV x y] (.lit (.int .i64 (if x ≠ 0 then x else y))) := by
  refine PCall_intro Try.func36 rfl Try.ntmps36 (rs := [.tmp 2]) rfl (by simp) ?_
  simp only [awl, ne_eq, srcRows, awo, aggEq, eqF, litEq, andO, qwl, qwo, Go.Ab.qOp, lop, oneK, stepOp, pairO, pureOp, heapOp, entry, slotsOf, ev, evL, evP, evO, lk, up, St.put, St.drop, constAV, cellAV, cellsAV, plain, binV, nilCmp, intBin, strBin, guardBit, boolOf, fnOf, intOfAV, bound, resOf, retV, moved, rowOf, valAt, Kd.agg, AV.cells, splice, places, fillAV, rowsFill, Hp.none, ↓reduceIte, reduceCtorEq, Nat.reduceLT, Nat.reduceEqDiff, Nat.reduceAdd, Nat.reduceLeDiff, Nat.reducePow, Nat.reduceMul, Yzz, Xzz, Yzy, tyW, orV]
  refine aw_for 2 0 (fun i _ => orS x y i) (fun i (_ : Unit) => (1 ≤ i → x = 0) ∧ (2 ≤ i → y = 0)) (fun i _ => rfl) () (St.wk_slots (by simp [lk, orV])) ⟨fun h => by omega, fun h => by omega⟩ (fun i _ hlt hI => ?_) (fun _ hI => ?_)
  · have l2 : (i : Int) < ((2 : Nat) : Int) := by omega
    match i, hI, l2 with
    | 0, hI, l2 =>
      simp (disch := decide) only [awl, ne_eq, srcRows, awo, aggEq, eqF, litEq, andO, qwl, qwo, Go.Ab.qOp, lop, oneK, stepOp, pairO, pureOp, heapOp, entry, slotsOf, ev, evL, evP, evO, lk, up, St.put, St.drop, constAV, cellAV, cellsAV, plain, binV, nilCmp, intBin, strBin, guardBit, boolOf, fnOf, intOfAV, bound, resOf, retV, moved, rowOf, valAt, Kd.agg, AV.cells, splice, places, fillAV, rowsFill, Hp.none, ↓reduceIte, reduceCtorEq, Nat.reduceLT, Nat.reduceEqDiff, Nat.reduceAdd, Nat.reduceLeDiff, Nat.reducePow, Nat.reduceMul, Yzz, Xzz, Yzy, tyW, orS, orV, l2, decide_true, Int.toNat_natCast, Int.natCast_nonneg, List.getD_cons_zero, List.length_cons, List.length_nil]
      refine .intro (fun h => ?_) (fun h => ?_)
      · have h : x ≠ 0 := by simpa using h
        simp only [awl, ne_eq, srcRows, awo, aggEq, eqF, litEq, andO, qwl, qwo, Go.Ab.qOp, lop, oneK, stepOp, pairO, pureOp, heapOp, entry, slotsOf, ev, evL, evP, evO, lk, up, St.put, St.drop, constAV, cellAV, cellsAV, plain, binV, nilCmp, intBin, strBin, guardBit, boolOf, fnOf, intOfAV, bound, resOf, retV, moved, rowOf, valAt, Kd.agg, AV.cells, splice, places, fillAV, rowsFill, Hp.none, ↓reduceIte, reduceCtorEq, Nat.reduceLT, Nat.reduceEqDiff, Nat.reduceAdd, Nat.reduceLeDiff, Nat.reducePow, Nat.reduceMul, Yzz, Xzz, Yzy, tyW, if_pos h]
        exact expo_pure (.lit _)
      · have h : x = 0 := by simpa using h
        simp (disch := decide) only [awl, ne_eq, srcRows, awo, aggEq, eqF, litEq, andO, qwl, qwo, Go.Ab.qOp, lop, oneK, stepOp, pairO, pureOp, heapOp, entry, slotsOf, ev, evL, evP, evO, lk, up, St.put, St.drop, constAV, cellAV, cellsAV, plain, binV, nilCmp, intBin, strBin, guardBit, boolOf, fnOf, intOfAV, bound, resOf, retV, moved, rowOf, valAt, Kd.agg, AV.cells, splice, places, fillAV, rowsFill, Hp.none, ↓reduceIte, reduceCtorEq, Nat.reduceLT, Nat.reduceEqDiff, Nat.reduceAdd, Nat.reduceLeDiff, Nat.reducePow, Nat.reduceMul, Yzz, Xzz, Yzy, tyW, i64w]
        exact ⟨(), ⟨fun _ => h, fun h => absurd h (by decide)⟩, St.wk.cp (St.wk_slots (by simp [lk]))⟩
    | 1, hI, l2 =>
      have hx := hI.1 (Nat.le_refl _)
      simp (disch := decide) only [awl, ne_eq, srcRows, awo, aggEq, eqF, litEq, andO, qwl, qwo, Go.Ab.qOp, lop, oneK, stepOp, pairO, pureOp, heapOp, entry, slotsOf, ev, evL, evP, evO, lk, up, St.put, St.drop, constAV, cellAV, cellsAV, plain, binV, nilCmp, intBin, strBin, guardBit, boolOf, fnOf, intOfAV, bound, resOf, retV, moved, rowOf, valAt, Kd.agg, AV.cells, splice, places, fillAV, rowsFill, Hp.none, ↓reduceIte, reduceCtorEq, Nat.reduceLT, Nat.reduceEqDiff, Nat.reduceAdd, Nat.reduceLeDiff, Nat.reducePow, Nat.reduceMul, Yzz, Xzz, Yzy, tyW, orS, orV, l2, decide_true, Int.toNat_natCast, Int.natCast_nonneg, List.getD_cons_succ, List.getD_cons_zero, List.length_cons, List.length_nil]
      refine .intro (fun h => ?_) (fun h => ?_)
      · simp only [awl, ne_eq, srcRows, awo, aggEq, eqF, litEq, andO, qwl, qwo, Go.Ab.qOp, lop, oneK, stepOp, pairO, pureOp, heapOp, entry, slotsOf, ev, evL, evP, evO, lk, up, St.put, St.drop, constAV, cellAV, cellsAV, plain, binV, nilCmp, intBin, strBin, guardBit, boolOf, fnOf, intOfAV, bound, resOf, retV, moved, rowOf, valAt, Kd.agg, AV.cells, splice, places, fillAV, rowsFill, Hp.none, ↓reduceIte, reduceCtorEq, Nat.reduceLT, Nat.reduceEqDiff, Nat.reduceAdd, Nat.reduceLeDiff, Nat.reducePow, Nat.reduceMul, Yzz, Xzz, Yzy, tyW, if_neg (show ¬ x ≠ 0 by simp [hx])]
        exact expo_pure (.lit _)
      · have h : y = 0 := by simpa using h
        simp (disch := decide) only [awl, ne_eq, srcRows, awo, aggEq, eqF, litEq, andO, qwl, qwo, Go.Ab.qOp, lop, oneK, stepOp, pairO, pureOp, heapOp, entry, slotsOf, ev, evL, evP, evO, lk, up, St.put, St.drop, constAV, cellAV, cellsAV, plain, binV, nilCmp, intBin, strBin, guardBit, boolOf, fnOf, intOfAV, bound, resOf, retV, moved, rowOf, valAt, Kd.agg, AV.cells, splice, places, fillAV, rowsFill, Hp.none, ↓reduceIte, reduceCtorEq, Nat.reduceLT, Nat.reduceEqDiff, Nat.reduceAdd, Nat.reduceLeDiff, Nat.reducePow, Nat.reduceMul, Yzz, Xzz, Yzy, tyW, i64w]
        exact ⟨(), ⟨fun _ => hx, fun _ => h⟩, St.wk.cp (St.wk_slots (by simp [lk]))⟩
  · have h1 : ¬ ((2 : Nat) : Int) < ((2 : Nat) : Int) := by decide
    have h2 : (if x ≠ 0 then x else y) = 0 := by simp [hI.1, hI.2]
    rw [h2]
    simp only [awl, ne_eq, srcRows, awo, aggEq, eqF, litEq, andO, qwl, qwo, Go.Ab.qOp, lop, oneK, stepOp, pairO, pureOp, heapOp, entry, slotsOf, ev, evL, evP, evO, lk, up, St.put, St.drop, constAV, cellAV, cellsAV, plain, binV, nilCmp, intBin, strBin, guardBit, boolOf, fnOf, intOfAV, bound, resOf, retV, moved, rowOf, valAt, Kd.agg, AV.cells, splice, places, fillAV, rowsFill, Hp.none, ↓reduceIte, reduceCtorEq, Nat.reduceLT, Nat.reduceEqDiff, Nat.reduceAdd, Nat.reduceLeDiff, Nat.reducePow, Nat.reduceMul, Yzz, Xzz, Yzy, tyW, orS, orV, h1, decide_false]
    exact expo_pure (.lit _)
theorem spec39 (s l s' l' : Int) : PCall Try.prog 39 [.agg [.lit (.int .i64 s), .lit (.int .i64 l)], .agg [.lit (.int .i64 s'), .lit (.int .i64 l')]] (.lit (.int .i64 (cmpF s l s' l'))) := by
  refine PCall_intro Try.func39 rfl Try.ntmps39 (rs := [.tmp 4]) rfl (by simp) ?_
  simp only [awl, ne_eq, srcRows, awo, aggEq, eqF, litEq, andO, qwl, qwo, Go.Ab.qOp, lop, oneK, stepOp, pairO, pureOp, heapOp, entry, slotsOf, ev, evL, evP, evO, lk, up, St.put, St.drop, constAV, cellAV, cellsAV, plain, binV, nilCmp, intBin, strBin, guardBit, boolOf, fnOf, intOfAV, bound, resOf, retV, moved, rowOf, valAt, Kd.agg, AV.cells, splice, places, fillAV, rowsFill, Hp.none, ↓reduceIte, reduceCtorEq, Nat.reduceLT, Nat.reduceEqDiff, Nat.reduceAdd, Nat.reduceLeDiff, Nat.reducePow, Nat.reduceMul, Yzz, Xzz, Yzy, tyW]
  refine aw_quietN (n := 17) rfl (by decide) mixed ?_
  simp only [awl, ne_eq, srcRows, awo, aggEq, eqF, litEq, andO, qwl, qwo, Go.Ab.qOp, lop, oneK, stepOp, pairO, pureOp, heapOp, entry, slotsOf, ev, evL, evP, evO, lk, up, St.put, St.drop, constAV, cellAV, cellsAV, plain, binV, nilCmp, intBin, strBin, guardBit, boolOf, fnOf, intOfAV, bound, resOf, retV, moved, rowOf, valAt, Kd.agg, AV.cells, splice, places, fillAV, rowsFill, Hp.none, ↓reduceIte, reduceCtorEq, Nat.reduceLT, Nat.reduceEqDiff, Nat.reduceAdd, Nat.reduceLeDiff, Nat.reducePow, Nat.reduceMul, Yzz, Xzz, Yzy, tyW]
  refine CallQ_pure call37 (spec37 s s') (by simp [Pure.lit]) (.lit _) ?_
  simp only [awl, ne_eq, srcRows, awo, aggEq, eqF, litEq, andO, qwl, qwo, Go.Ab.qOp, lop, oneK, stepOp, pairO, pureOp, heapOp, entry, slotsOf, ev, evL, evP, evO, lk, up, St.put, St.drop, constAV, cellAV, cellsAV, plain, binV, nilCmp, intBin, strBin, guardBit, boolOf, fnOf, intOfAV, bound, resOf, retV, moved, rowOf, valAt, Kd.agg, AV.cells, splice, places, fillAV, rowsFill, Hp.none, ↓reduceIte, reduceCtorEq, Nat.reduceLT, Nat.reduceEqDiff, Nat.reduceAdd, Nat.reduceLeDiff, Nat.reducePow, Nat.reduceMul, Yzz, Xzz, Yzy, tyW]
  refine CallQ_pure call37 (spec37 l l') (by simp [Pure.lit]) (.lit _) ?_
  simp only [awl, ne_eq, srcRows, awo, aggEq, eqF, litEq, andO, qwl, qwo, Go.Ab.qOp, lop, oneK, stepOp, pairO, pureOp, heapOp, entry, slotsOf, ev, evL, evP, evO, lk, up, St.put, St.drop, constAV, cellAV, cellsAV, plain, binV, nilCmp, intBin, strBin, guardBit, boolOf, fnOf, intOfAV, bound, resOf, retV, moved, rowOf, valAt, Kd.agg, AV.cells, splice, places, fillAV, rowsFill, Hp.none, ↓reduceIte, reduceCtorEq, Nat.reduceLT, Nat.reduceEqDiff, Nat.reduceAdd, Nat.reduceLeDiff, Nat.reducePow, Nat.reduceMul, Yzz, Xzz, Yzy, tyW]
  refine CallQ_pure call36 (or_spec (cmpI s s') (cmpI l l')) (allc (.vec (by simp [Pure.lit])) alln) (.lit _) ?_
  simp only [awl, ne_eq, srcRows, awo, aggEq, eqF, litEq, andO, qwl, qwo, Go.Ab.qOp, lop, oneK, stepOp, pairO, pureOp, heapOp, entry, slotsOf, ev, evL, evP, evO, lk, up, St.put, St.drop, constAV, cellAV, cellsAV, plain, binV, nilCmp, intBin, strBin, guardBit, boolOf, fnOf, intOfAV, bound, resOf, retV, moved, rowOf, valAt, Kd.agg, AV.cells, splice, places, fillAV, rowsFill, Hp.none, ↓reduceIte, reduceCtorEq, Nat.reduceLT, Nat.reduceEqDiff, Nat.reduceAdd, Nat.reduceLeDiff, Nat.reducePow, Nat.reduceMul, Yzz, Xzz, Yzy, tyW]
  exact expo_pure (.lit _)
end Go.Proofs.Ytfnmdmadaljjkaa
end

section
namespace Go.Proofs.Ytfnmdmadaljjkaa
open Go.Ab
set_option linter.unusedSimpArgs false
set_option linter.unusedVariables false
set_option maxRecDepth 20000

theorem encT_eq (b : Bool) (ws : List Wy) : encT (.mk b ws) = .np [.lit (.bool b), .vec (encWs ws) false] := by simp [encT]
theorem encWs_map : ∀ l : List Wy, encWs l = l.map encW
  | [] => by simp [encWs]
  | w :: l => by simp [encWs, encWs_map l]
theorem encW_eq (w : Wy) : encW w = [.lit (.int .i64 w.s), .lit (.int .i64 w.l), encT w.t] := by cases w; simp [encW, Wy.s, Wy.l, Wy.t]
theorem encW_length (w : Wy) : (encW w).length = 3 := by rw [encW_eq]; rfl
theorem encW_take (w : Wy) : (encW w).take 3 = encW w := List.take_of_length_le (by rw [encW_length]; exact Nat.le_refl _)
theorem szT_kid {b : Bool} {ws : List Wy} {w : Wy} (h : w ∈ ws) : szT w.t < szT (.mk b ws) := by
  rw [szT_eq]; have := szWs_mem h; omega

theorem gp_encT : ∀ t : Tr, GP (encT t)
  | .mk b ws => by
    rw [encT_eq]
    refine .np (allc (.lit _) (allc (.vec fun x hx c hc => ?_) alln))
    rw [encWs_map] at hx
    obtain ⟨w, hw, rfl⟩ := List.mem_map.1 hx
    rw [encW_eq] at hc
    simp only [List.mem_cons, List.not_mem_nil, or_false] at hc
    rcases hc with rfl | rfl | rfl
    · exact .lit _
    · exact .lit _
    · exact gp_encT w.t
termination_by t => szT t
decreasing_by exact szT_kid hw
theorem gp_encW (w : Wy) : ∀ c ∈ encW w, GP c := by
  rw [encW_eq]; exact allc (.lit _) (allc (.lit _) (allc (gp_encT _) alln))
theorem gp_encWs (l : List Wy) : ∀ x ∈ l.map encW, ∀ c ∈ x, GP c := fun x hx => by
  obtain ⟨w, _, rfl⟩ := List.mem_map.1 hx; exact gp_encW w
theorem gp_encO (o : Option Tr) : GP (encO o) := by
  cases o with
  | none => exact .lit _
  | some t => exact gp_encT t
theorem isP_encT (t : Tr) : isP (encT t) := by cases t; rw [encT_eq]; exact .inr ⟨_, rfl⟩
theorem np_encT (t : Tr) : ∃ cs, encT t = .np cs := by cases t; rw [encT_eq]; exact ⟨_, rfl⟩
theorem isP_encO (o : Option Tr) : isP (encO o) := by
  cases o with
  | none => exact .inl rfl
  | some t => exact isP_encT t
theorem lit_inj {g : Gh} {u : Value} {a b : Value} (h : Rep g u (.lit a)) (k : Rep g u (.lit b)) : a = b := by
  rw [← (Rep.of_lit h).1, ← (Rep.of_lit k).1]
theorem rows_inj {g : Gh} : ∀ {l m : List Wy}, (∀ w ∈ l, ∀ v : Wy, ∀ u, Rep g u (encT w.t) → Rep g u (encT v.t) → w.t = v.t) → l.length = m.length →
    (∀ (i : Nat) (w v : Wy) (j : Nat) (a b : AV), l[i]? = some w → m[i]? = some v → (encW w)[j]? = some a → (encW v)[j]? = some b → ∃ u, Rep g u a ∧ Rep g u b) → l = m
  | [], [], _, _, _ => rfl
  | [], _ :: _, _, h, _ => by simp at h
  | _ :: _, [], _, h, _ => by simp at h
  | w :: l, v :: m, ih, h, hr => by
    have e0 := fun j a b => hr 0 w v j a b rfl rfl
    rw [encW_eq, encW_eq] at e0
    obtain ⟨u0, p0, q0⟩ := e0 0 _ _ rfl rfl
    obtain ⟨u1, p1, q1⟩ := e0 1 _ _ rfl rfl
    obtain ⟨u2, p2, q2⟩ := e0 2 _ _ rfl rfl
    have h0 := lit_inj p0 q0
    have h1 := lit_inj p1 q1
    simp only [Value.int.injEq, true_and] at h0 h1
    rw [Wy.ext' h0 h1 (ih w (by simp) v u2 p2 q2), rows_inj (l := l) (m := m) (fun x hx => ih x (by simp [hx])) (by simpa using h) (fun i x y j a b k1 k2 => hr (i + 1) x y j a b (by simpa using k1) (by simpa using k2))]
theorem of_np {g : Gh} {u : Value} {cs : List AV} (h : Rep g u (.np cs)) : ∃ (b : Nat) (f : Nat → Value), u = .pointer (some ⟨b, 0, none⟩) ∧ (∀ (j : Nat) (a : AV), cs[j]? = some a → g.mem b j = some (f j)) ∧ ∀ (j : Nat) (a : AV), cs[j]? = some a → Rep g (f j) a := by
  cases h with
  | np f h0 h1 h2 => exact ⟨_, f, rfl, h1, h2⟩
theorem of_vec {g : Gh} {u : Value} {xs : List (List AV)} {fl : Bool} (h : Rep g u (.vec xs fl)) : ∃ (b off n cap : Nat), (xs = [] ∧ (u = .slice none 0 0 ∨ ∃ ad, u = .slice (some ad) 0 cap)) ∨ ∃ s, u = .slice (some ⟨b, off, none⟩) xs.length cap ∧ (∀ x ∈ xs, x.length = s) ∧ ∃ f : Nat → Nat → Value,
    (∀ (i : Nat) (x : List AV) (j : Nat) (a : AV), xs[i]? = some x → x[j]? = some a → g.mem b (off + i * s + j) = some (f i j)) ∧ ∀ (i : Nat) (x : List AV) (j : Nat) (a : AV), xs[i]? = some x → x[j]? = some a → Rep g (f i j) a := by
  cases h with
  | vecN => exact ⟨0, 0, 0, 0, .inl ⟨rfl, .inl rfl⟩⟩
  | @vecE ad cap h => exact ⟨0, 0, 0, cap, .inl ⟨rfl, .inr ⟨ad, rfl⟩⟩⟩
  | @vec b off cap s _ _ f h1 h2 h3 h4 h5 => exact ⟨b, off, 0, cap, .inr ⟨s, rfl, h1, f, h4, h5⟩⟩
theorem vec_same {g : Gh} {u : Value} {xs ys : List (List AV)} {fl fk : Bool} {n : Nat} (hx : ∀ x ∈ xs, x.length = n) (hy : ∀ y ∈ ys, y.length = n) (h0 : Rep g u (.vec xs fl)) (k0 : Rep g u (.vec ys fk)) :
    xs.length = ys.length ∧ ∀ (i : Nat) (x y : List AV) (j : Nat) (a b : AV), xs[i]? = some x → ys[i]? = some y → x[j]? = some a → y[j]? = some b → ∃ v, Rep g v a ∧ Rep g v b := by
  obtain ⟨b, off, _, cap, h⟩ := of_vec h0
  obtain ⟨b', off', _, cap', k⟩ := of_vec k0
  rcases h with ⟨rfl, h⟩ | ⟨s, rfl, h1, f, h2, h3⟩
  · rcases k with ⟨rfl, k⟩ | ⟨s, rfl, k1, f, k2, k3⟩
    · exact ⟨rfl, fun i x y j a b e => by simp at e⟩
    · have : ys.length = 0 := by
        rcases h with h | ⟨ad, h⟩
        · simp at h
        · simp only [Value.slice.injEq] at h; omega
      rw [List.length_eq_zero_iff.1 this]
      exact ⟨rfl, fun i x y j a b e => by simp at e⟩
  · rcases k with ⟨rfl, k⟩ | ⟨s', e, k1, f', k2, k3⟩
    · have : xs.length = 0 := by
        rcases k with h | ⟨ad, h⟩
        · simp at h
        · simp only [Value.slice.injEq] at h; omega
      rw [List.length_eq_zero_iff.1 this]
      exact ⟨rfl, fun i x y j a b e => by simp at e⟩
    · simp only [Value.slice.injEq, Option.some.injEq, Addr.mk.injEq] at e
      obtain ⟨⟨rfl, rfl, _⟩, e2, _⟩ := e
      refine ⟨e2, fun i x y j a b' e1 e2 e3 e4 => ⟨f i j, h3 i x j a e1 e3, ?_⟩⟩
      have s1 : s = n := by rw [← h1 x (List.mem_of_getElem? e1)]; exact hx x (List.mem_of_getElem? e1)
      have s2 : s' = n := by rw [← k1 y (List.mem_of_getElem? e2)]; exact hy y (List.mem_of_getElem? e2)
      subst s1; subst s2
      have q1 := h2 i x j a e1 e3
      rw [k2 i y j b' e2 e4] at q1
      rw [← Option.some.inj q1]
      exact k3 i y j b' e2 e4
theorem len_rows (l : List Wy) : ∀ x ∈ l.map encW, x.length = 3 := fun x hx => by
  obtain ⟨w, _, rfl⟩ := List.mem_map.1 hx; exact encW_length w
theorem encT_inj {g : Gh} : ∀ (a b : Tr) (u : Value), Rep g u (encT a) → Rep g u (encT b) → a = b
  | .mk b1 ws, .mk b2 vs, u, ha, hb => by
    have ih : ∀ w ∈ ws, ∀ v : Wy, ∀ u, Rep g u (encT w.t) → Rep g u (encT v.t) → w.t = v.t := fun w hw v u => encT_inj w.t v.t u
    rw [encT_eq] at ha hb
    obtain ⟨b, f, rfl, h1, h2⟩ := of_np ha
    obtain ⟨b', f', e, k1, k2⟩ := of_np hb
    simp only [Value.pointer.injEq, Option.some.injEq, Addr.mk.injEq] at e
    obtain ⟨rfl, _⟩ := e
    have same : ∀ (j : Nat) (a b : AV), [AV.lit (.bool b1), .vec (encWs ws) false][j]? = some a → [AV.lit (.bool b2), .vec (encWs vs) false][j]? = some b → f j = f' j := fun j a b e1 e2 => by
      have := h1 j a e1; rw [k1 j b e2] at this; exact (Option.some.inj this).symm
    have e0 := h2 0 _ rfl
    have e0' := k2 0 _ rfl
    rw [same 0 _ _ rfl rfl] at e0
    have hbb := lit_inj e0 e0'
    simp only [Value.bool.injEq] at hbb
    subst hbb
    have e1 := h2 1 _ rfl
    have e1' := k2 1 _ rfl
    rw [same 1 _ _ rfl rfl] at e1
    rw [encWs_map] at e1 e1'
    obtain ⟨c1, c2⟩ := vec_same (len_rows ws) (len_rows vs) e1 e1'
    congr 1
    exact rows_inj ih (by simpa using c1) fun i w v j a b p1 p2 p3 p4 => c2 i _ _ j a b (by rw [List.getElem?_map, p1]; rfl) (by rw [List.getElem?_map, p2]; rfl) p3 p4
termination_by a => szT a
decreasing_by exact szT_kid hw
theorem same_encT {a b : Tr} (h : SameV (encT a) (encT b)) : a = b := by
  obtain ⟨g, v, h1, h2⟩ := h
  exact encT_inj a b v h1 h2
theorem same_encO {a b : Option Tr} (h : SameV (encO a) (encO b)) : a = b := by
  obtain ⟨g, v, h1, h2⟩ := h
  cases a with
  | none =>
    cases b with
    | none => rfl
    | some t => obtain ⟨b, ws⟩ := t; simp only [encO, encT_eq] at h1 h2; rw [(Rep.of_lit h1).1] at h2; cases h2
  | some t =>
    cases b with
    | none => obtain ⟨b, ws⟩ := t; simp only [encO, encT_eq] at h1 h2; rw [(Rep.of_lit h2).1] at h1; cases h1
    | some t' => rw [encT_inj t t' v h1 h2]
theorem ptrNode : PtrTy Try.prog 26 := ⟨_, _, rfl, rfl, by decide⟩
theorem pairNode : PairTy Try.prog 91 := ⟨_, _, rfl, by decide, by decide, by decide, by decide, ptrNode, ptrNode, by kernel_rfl⟩
end Go.Proofs.Ytfnmdmadaljjkaa
end

section
namespace Go.Proofs.Ytfnmdmadaljjkaa
open Go.Ab
set_option linter.unusedSimpArgs false
set_option linter.unusedVariables false
set_option maxRecDepth 20000

/-- No node has more ways. -/
inductive Bnd (n : Nat) : Tr → Prop
  | mk {b : Bool} {ws : List Wy} : ws.length ≤ n → (∀ w ∈ ws, Bnd n w.t) → Bnd n (.mk b ws)
theorem Bnd.len {n : Nat} {b : Bool} {ws : List Wy} (h : Bnd n (.mk b ws)) : ws.length ≤ n := by cases h; assumption
theorem Bnd.kid {n : Nat} {b : Bool} {ws : List Wy} (h : Bnd n (.mk b ws)) : ∀ w ∈ ws, Bnd n w.t := by cases h; assumption
theorem cinv0 {kb va : AV} (h : cinv 0 kb va) : isPP kb := by
  obtain ⟨a, b, rfl, _⟩ := h
  exact ⟨_, _, rfl, isP_encT a, isP_encT b⟩
theorem isPP_T (a b : Tr) : isPP (.agg [encT a, encT b]) := ⟨_, _, rfl, isP_encT a, isP_encT b⟩

def jnS (b b1 b2 : Bool) (ws vs : List Wy) (_ : Nat) (a : Nat × Nat × List Wy) : St :=
  ⟨[(10, .lit (.int .i64 (a.2.1 : Int))), (9, .lit (.int .i64 (a.1 : Int))), (8, .ptr 0 0), (0, .np [.lit (.bool b1), .vec (ws.map encW) false]), (1, .np [.lit (.bool b2), .vec (vs.map encW) false]), (2, .mp 0)],
    ⟨[(0, [.lit (.bool b), grA 1 (a.2.2.map encW)])], grT 1 3 (a.2.2.map encW), grN 1 (a.2.2.map encW)⟩, 182⟩
theorem grN_nil {t : Nat} : grN t [] = t := rfl
theorem grN_cons {t : Nat} {x : List AV} {l : List (List AV)} : grN t (x :: l) = t + 1 := rfl
structure JnI (ws vs : List Wy) (k : Nat) (a : Nat × Nat × List Wy) : Prop where
  len : a.2.2.length = k
  i : a.1 ≤ ws.length
  j : a.2.1 ≤ vs.length
  eq : joinWs ws vs = a.2.2 ++ joinWs (ws.drop a.1) (vs.drop a.2.1)

theorem stepK_wk {o : Oper} {K : St → Prop} {σ σ' : St} (h : St.wk σ σ') (k : stepK Try.prog o none K σ') : stepK Try.prog o none K σ :=
  fun g0 h0 w0 g w a Q r => let ⟨g', r'⟩ := h g0 h0 w0 g w a r; k g0 h0 w0 g' w a Q r'
theorem lk_some_of_mem {α : Type} {l : List (Nat × α)} {i : Nat} {v : α} (h : (i, v) ∈ l) : ∃ u, lk l i = some u := by
  induction l with
  | nil => cases h
  | cons p l ih =>
    obtain ⟨j, x⟩ := p
    simp only [lk]
    split
    · exact ⟨x, rfl⟩
    · rename_i hn
      rcases List.mem_cons.1 h with h | h
      · cases h; exact absurd rfl hn
      · exact ih h
/-- A node that is done: it stays. -/
theorem node_frz {σ : St} {b : Bool} {rows : List (List AV)} {t s : Nat} (sl : List (Nat × AV)) (ps : List Nat) (hk : lk σ.hp.boxes 0 = some [.lit (.bool b), grA t rows]) (ht : rows ≠ [] → lk σ.hp.toks t = some ⟨rows, 0, s⟩)
    (h1 : ∀ p ∈ sl, lk σ.slots p.1 = some p.2) (h2 : ∀ i ∈ ps, lk σ.slots i = some (.ptr 0 0)) :
    St.wk σ ⟨ps.map (fun i => (i, .np [.lit (.bool b), .vec rows false])) ++ sl, ⟨[], [], σ.hp.nx⟩, σ.nt⟩ := by
  have sls : ∀ p ∈ ps.map (fun i => (i, AV.ptr 0 0)) ++ sl, lk σ.slots p.1 = some p.2 := fun p hp => by
    rcases List.mem_append.1 hp with hp | hp
    · obtain ⟨i, hi, rfl⟩ := List.mem_map.1 hp; exact h2 i hi
    · exact h1 p hp
  have step1 : St.wk σ ⟨ps.map (fun i => (i, AV.ptr 0 0)) ++ sl, ⟨[(0, [.lit (.bool b), .vec rows false])], [], σ.hp.nx⟩, σ.nt⟩ := by
    cases rows with
    | nil =>
      refine St.wk_conv rfl rfl (fun g g' x p hp => ⟨_, sls p hp, fun v hv => hv.mono x⟩) (fun g g' x p hp => ?_) (fun g p hp => by cases hp)
      rcases List.mem_singleton.1 hp with rfl
      exact ⟨_, hk, cvL_cons (fun v hv => hv.mono x) (cvL_cons (cv_full x _ _) cvL_nil)⟩
    | cons y l =>
      refine St.wk_freeze (ht (by simp)) rfl rfl (fun g g' x c p hp => ⟨_, sls p hp, fun v hv => hv.mono x⟩) (fun g g' x c p hp => ?_) (fun g p hp => by cases hp)
      rcases List.mem_singleton.1 hp with rfl
      exact ⟨_, hk, cvL_cons (fun v hv => hv.mono x) (cvL_cons c cvL_nil)⟩
  refine step1.trans (St.wk_box (id := 0) (cs := [.lit (.bool b), .vec rows false]) rfl rfl rfl (fun g g' x c p hp => ?_) (fun g g' x c p hp => by cases hp) (fun g p hp => by cases hp))
  have look : ∀ {i v}, (i, v) ∈ ps.map (fun i => (i, AV.ptr 0 0)) ++ sl → lk (ps.map (fun i => (i, AV.ptr 0 0)) ++ sl) i = lk σ.slots i := fun {i v} h => by
    obtain ⟨u, hu⟩ := lk_some_of_mem h
    rw [hu, sls _ (lk_mem hu)]
  rcases List.mem_append.1 hp with hp | hp
  · obtain ⟨i, hi, rfl⟩ := List.mem_map.1 hp
    exact ⟨_, (look (List.mem_append.2 (.inl (List.mem_map.2 ⟨i, hi, rfl⟩)))).trans (h2 i hi), c⟩
  · exact ⟨_, (look (List.mem_append.2 (.inr hp))).trans (h1 p hp), cv_refl x _⟩
theorem joinWs_len_ge : ∀ ws vs : List Wy, ws.length ≤ (joinWs ws vs).length ∧ vs.length ≤ (joinWs ws vs).length
  | [], vs => by rw [joinWs_nil_left]; exact ⟨Nat.zero_le _, Nat.le_refl _⟩
  | w :: ws, [] => by rw [joinWs_nil_right]; exact ⟨Nat.le_refl _, Nat.zero_le _⟩
  | w :: ws, v :: vs => by
    have h1 := joinWs_len_ge ws (v :: vs)
    have h2 := joinWs_len_ge (w :: ws) vs
    have h3 := joinWs_len_ge ws vs
    rw [joinWs_cons]
    simp only [List.length_cons] at *
    split
    · simp only [List.length_cons]; omega
    · split <;> simp only [List.length_cons] <;> omega
termination_by ws vs => ws.length + vs.length
theorem joinWs_len_le : ∀ ws vs : List Wy, (joinWs ws vs).length ≤ ws.length + vs.length
  | [], vs => by rw [joinWs_nil_left]; simp
  | w :: ws, [] => by rw [joinWs_nil_right]; simp
  | w :: ws, v :: vs => by
    have h1 := joinWs_len_le ws (v :: vs)
    have h2 := joinWs_len_le (w :: ws) vs
    have h3 := joinWs_len_le ws vs
    rw [joinWs_cons]
    simp only [List.length_cons] at *
    split
    · simp only [List.length_cons]; omega
    · split <;> simp only [List.length_cons] <;> omega
termination_by ws vs => ws.length + vs.length
theorem same_pair {x y x' y' : AV} (h : SameV (.agg [x, y]) (.agg [x', y'])) : SameV x x' ∧ SameV y y' := by
  obtain ⟨g, u, h1, h2⟩ := h
  obtain ⟨cs, rfl, k1, l1⟩ := RepL.of_agg h1
  obtain ⟨cs', e, k2, l2⟩ := RepL.of_agg h2
  simp only [Value.agg.injEq] at e
  subst e
  have hl : cs.toList.length = 2 := k1.1
  obtain ⟨p, q, hpq⟩ : ∃ p q, cs.toList = [p, q] := by
    match hcs : cs.toList, hl with
    | [p, q], _ => exact ⟨p, q, rfl⟩
  exact ⟨⟨g, p, k1.2 0 p x (by rw [hpq]; rfl) rfl, k2.2 0 p x' (by rw [hpq]; rfl) rfl⟩, ⟨g, q, k1.2 1 q y (by rw [hpq]; rfl) rfl, k2.2 1 q y' (by rw [hpq]; rfl) rfl⟩⟩
end Go.Proofs.Ytfnmdmadaljjkaa
end
