/- The plain law: an alternative more makes nothing less empty, and takes words from none. Conditions: those that each theorem names. -/
import Derived.Test.YtogdlomemaoajaaMore1
namespace Go.Proofs.Ytogdlomemaoajaa
open Go.Ab
set_option linter.unusedSimpArgs false
set_option linter.unusedVariables false
set_option maxRecDepth 20000

def leB (a b : List Bool) : Prop := a.length = b.length ∧ ∀ i : Nat, a.getD i false = true → b.getD i false = true
/-- Rules of the same names, with no fewer alternatives. -/
def leR (rs rs' : List Rl) : Prop := rs'.map Rl.name = rs.map Rl.name ∧ ∀ (i : Nat) (r r' : Rl), rs[i]? = some r → rs'[i]? = some r' → ∀ a ∈ r.alts, a ∈ r'.alts
theorem leR.length {rs rs' : List Rl} (h : leR rs rs') : rs'.length = rs.length := by have := congrArg List.length h.1; simpa using this
theorem leR.callI {rs rs' : List Rl} (h : leR rs rs') (lx : Bool) (s : ByteArray) : callI rs' lx s = callI rs lx s := by
  have e : ∀ l : List Rl, l.any (nmEq s) = (l.map Rl.name).any (fun n => n.toList == s.toList) := fun l => by rw [List.any_map]; rfl
  have f : ∀ l : List Rl, l.findIdx (nmEq s) = (l.map Rl.name).findIdx (fun n => n.toList == s.toList) := fun l => by rw [List.findIdx_map]; rfl
  simp only [Proofs.Ytogdlomemaoajaa.callI, e, f, h.1]
theorem emp_mono {rs rs' : List Rl} (h : leR rs rs') {kn kn' : List Bool} (hk : leB kn kn') (lx : Bool) (e : El) (he : emp rs kn lx e = true) : emp rs' kn' lx e = true := by
  match e with
  | .mk op name set lz g kids level place =>
    have ih : ∀ k ∈ kids, emp rs kn lx k = true → emp rs' kn' lx k = true := fun k hm => emp_mono h hk lx k
    simp only [emp, h.callI] at he ⊢
    by_cases h0 : op = 0
    · rw [if_pos h0] at he ⊢
      simp only [Bool.and_eq_true] at he ⊢
      exact ⟨he.1, hk.2 _ he.2⟩
    rw [if_neg h0] at he ⊢
    by_cases h1 : op = 1
    · rw [if_pos h1] at he ⊢
      exact he
    rw [if_neg h1] at he ⊢
    by_cases h5 : op = 5
    · rw [if_pos h5] at he ⊢
      rw [empAll_eq, Bool.not_eq_true', List.any_eq_false] at he ⊢
      intro x hx
      have := he x hx
      simp only [Bool.not_eq_true', Bool.not_eq_false] at this ⊢
      exact ih x hx this
    rw [if_neg h5] at he ⊢
    by_cases h6 : op = 6
    · rw [if_pos h6] at he ⊢
      rw [empAny_eq, List.any_eq_true] at he ⊢
      obtain ⟨x, hx, hp⟩ := he
      exact ⟨x, hx, ih x hx hp⟩
    rw [if_neg h6] at he ⊢
    by_cases h9 : op = 9
    · rw [if_pos h9] at he ⊢
      cases kids with
      | nil => exact he
      | cons k l => exact ih k (by simp) he
    rw [if_neg h9] at he ⊢
    exact he
termination_by SizeOf.sizeOf e
decreasing_by simp_wf; have := List.sizeOf_lt_of_mem hm; omega
theorem has_mono {rs rs' : List Rl} (h : leR rs rs') {kn kn' : List Bool} (hk : leB kn kn') (lx : Bool) (e : El) (he : hasE rs kn lx e = true) : hasE rs' kn' lx e = true := by
  match e with
  | .mk op name set lz g kids level place =>
    have ih : ∀ k ∈ kids, hasE rs kn lx k = true → hasE rs' kn' lx k = true := fun k hm => has_mono h hk lx k
    simp only [hasE, h.callI] at he ⊢
    by_cases h0 : op = 0
    · rw [if_pos h0] at he ⊢
      simp only [Bool.or_eq_true] at he ⊢
      exact he.imp id (hk.2 _)
    rw [if_neg h0] at he ⊢
    by_cases h5 : op = 5
    · rw [if_pos h5] at he ⊢
      rw [hasAll_eq, Bool.not_eq_true', List.any_eq_false] at he ⊢
      intro x hx
      have := he x hx
      simp only [Bool.not_eq_true', Bool.not_eq_false] at this ⊢
      exact ih x hx this
    rw [if_neg h5] at he ⊢
    by_cases h6 : op = 6
    · rw [if_pos h6] at he ⊢
      rw [hasAny_eq, List.any_eq_true] at he ⊢
      obtain ⟨x, hx, hp⟩ := he
      exact ⟨x, hx, ih x hx hp⟩
    rw [if_neg h6] at he ⊢
    by_cases h9 : op = 9
    · rw [if_pos h9] at he ⊢
      cases kids with
      | nil => exact he
      | cons k l => exact ih k (by simp) he
    rw [if_neg h9]
termination_by SizeOf.sizeOf e
decreasing_by simp_wf; have := List.sizeOf_lt_of_mem hm; omega

section
variable {ask ask' : List Bool → Bool → El → Bool} {rs rs' : List Rl}
theorem stp_mono (h : leR rs rs') (hm : ∀ kn kn' lx e, leB kn kn' → ask kn lx e = true → ask' kn' lx e = true) {q q' : List Bool × Bool} (hq : leB q.1 q'.1) (i : Nat) : leB (stp ask rs q i).1 (stp ask' rs' q' i).1 := by
  refine ⟨by rw [stp_len, stp_len]; exact hq.1, fun j hj => ?_⟩
  have keep : q'.1.getD j false = true → (stp ask' rs' q' i).1.getD j false = true := fun hp => by
    unfold stp
    split
    · split
      · simp only [List.getD_eq_getElem?_getD, List.getElem?_set] at hp ⊢
        split
        · split
          · rfl
          · rename_i h1 h2; subst h1; rw [List.getElem?_eq_none (by omega)] at hp; exact hp
        · exact hp
      · exact hp
    · exact hp
  unfold stp at hj
  split at hj
  · rename_i r hr
    split at hj
    · rename_i hc
      simp only [Bool.and_eq_true, Bool.not_eq_true'] at hc
      by_cases hij : i = j
      · subst hij
        obtain ⟨r', hr'⟩ : ∃ r', rs'[i]? = some r' := ⟨_, List.getElem?_eq_getElem (by rw [h.length]; exact (List.getElem?_eq_some_iff.1 hr).1)⟩
        have hn : r'.name = r.name := by
          have h1 := congrArg (fun l => l[i]?) h.1
          simp only [List.getElem?_map, hr, hr', Option.map_some] at h1
          exact Option.some.inj h1
        have hlt : i < q.1.length := by
          simp only [List.getD_eq_getElem?_getD, List.getElem?_set, if_true] at hj
          by_cases hl : i < q.1.length
          · exact hl
          · simp [hl] at hj
        have hrow : rowB ask' q'.1 r' = true := by
          have h1 := hc.2
          simp only [rowB, List.any_eq_true] at h1 ⊢
          obtain ⟨a, ha, hp⟩ := h1
          exact ⟨a, h.2 i r r' hr hr' a ha, by rw [hn]; exact hm _ _ _ _ hq hp⟩
        cases hb : q'.1.getD i false with
        | true => exact keep hb
        | false =>
          unfold stp
          rw [hr']
          simp only [hb, hrow, Bool.not_false, Bool.and_self, if_true]
          have : i < q'.1.length := by have := hq.1; omega
          simp [List.getD_eq_getElem?_getD, List.getElem?_set, this]
      · refine keep (hq.2 j ?_)
        simpa [List.getD_eq_getElem?_getD, List.getElem?_set, hij] using hj
    · exact keep (hq.2 j hj)
  · exact keep (hq.2 j hj)
theorem pas_mono (h : leR rs rs') (hm : ∀ kn kn' lx e, leB kn kn' → ask kn lx e = true → ask' kn' lx e = true) {kn kn' : List Bool} (hk : leB kn kn') (k : Nat) : leB (pas ask rs k kn).1 (pas ask' rs' k kn').1 := by
  induction k with
  | zero => exact hk
  | succ k ih => rw [pas_succ, pas_succ]; exact stp_mono h hm ih k
theorem itr_mono (h : leR rs rs') (hm : ∀ kn kn' lx e, leB kn kn' → ask kn lx e = true → ask' kn' lx e = true) (n : Nat) {kn kn' : List Bool} (hk : leB kn kn') : leB (itr ask rs n kn) (itr ask' rs' n kn') := by
  induction n generalizing kn kn' with
  | zero => exact hk
  | succ n ih => simp only [itr]; rw [h.length]; exact ih (pas_mono h hm hk _)
theorem fix_mono (h : leR rs rs') (hm : ∀ kn kn' lx e, leB kn kn' → ask kn lx e = true → ask' kn' lx e = true) : leB (fixB ask rs) (fixB ask' rs') := by
  unfold fixB
  rw [h.length]
  exact itr_mono h hm _ ⟨rfl, fun i hi => hi⟩
end
theorem rulesE_mono {rs rs' : List Rl} (h : leR rs rs') : leB (rulesE rs) (rulesE rs') := fix_mono h fun kn kn' lx e hk => emp_mono h hk lx e
theorem rulesH_mono {rs rs' : List Rl} (h : leR rs rs') : leB (rulesH rs) (rulesH rs') := fix_mono h fun kn kn' lx e hk => has_mono h hk lx e

/-- A rule with an alternative more. -/
def moreR (r : Rl) (e : El) : Rl := { r with alts := r.alts ++ [⟨e, false, [], 0⟩] }
theorem leR_set {rs : List Rl} {k : Nat} {r : Rl} (hr : rs[k]? = some r) (e : El) : leR rs (rs.set k (moreR r e)) := by
  refine ⟨?_, ?_⟩
  · apply List.ext_getElem?
    intro i
    simp only [List.getElem?_map, List.getElem?_set]
    split
    · rename_i h; subst h
      have := (List.getElem?_eq_some_iff.1 hr).1
      have h2 := (List.getElem?_eq_some_iff.1 hr).2
      simp [this, moreR, h2]
    · rfl
  · intro i x x' h1 h2 a ha
    rw [List.getElem?_set] at h2
    split at h2
    · rename_i h; subst h
      have := (List.getElem?_eq_some_iff.1 hr).1
      simp only [this, if_true, Option.some.injEq] at h2
      rw [hr] at h1; cases h1; subst h2
      simp [moreR, ha]
    · rw [h1] at h2; cases h2; exact ha
theorem sum_set {l : List Nat} {k x y : Nat} (h : l[k]? = some x) : (l.set k y).sum + x = l.sum + y := by
  induction l generalizing k with
  | nil => simp at h
  | cons a l ih =>
    cases k with
    | zero => simp at h; subst h; simp; omega
    | succ k => have := ih (by simpa using h); simp; omega
theorem grsz_more (g : Gr) {k : Nat} {r : Rl} (hr : g.rules[k]? = some r) (e : El) : grsz { g with rules := g.rules.set k (moreR r e) } = grsz g + (1 + esz e) := by
  have h1 : rsz (moreR r e) = rsz r + (1 + esz e) := by simp [rsz, moreR, asz]; omega
  have h2 : (g.rules.map rsz)[k]? = some (rsz r) := by simp [hr]
  have h3 := sum_set (y := rsz (moreR r e)) h2
  simp only [grsz, List.map_set]
  omega
end Go.Proofs.Ytogdlomemaoajaa
