/- Regions that draw their order, and make a variable somewhere on the way: it comes to the same as if it were made behind the operations that change nothing. Conditions: those that each theorem names. -/
import Derived.Test.YtfnmdmadaljjkaaCp
set_option linter.unusedVariables false
set_option linter.unusedSimpArgs false
namespace Go.Ab

/-- A block that nobody knows yet. -/
structure Pend (g : Gh) (h : Hp) (w : World) (b : Nat) (vs : Array Value) (ty : TypeId) : Prop where
  row : w.heap[b]? = some (.cells vs ty (0, 0))
  dead : ¬ Live g h b
  mem : ∀ o, g.mem b o = none
theorem Pend.step {g g' : Gh} {h h' : Hp} {w w' : World} {b : Nat} {vs : Array Value} {ty : TypeId} (pd : Pend g h w b vs ty) (s : Step1 g h w g' h' w') : Pend g' h' w' b vs ty := by
  have hlt := block_lt pd.row
  refine ⟨by rw [s.keeps.block b hlt pd.dead]; exact pd.row, fun l => (s.live b l).elim pd.dead (by omega), fun o => ?_⟩
  cases e : g'.mem b o with
  | none => rfl
  | some v =>
    rcases s.memo b o v e with q | q | q
    · rw [pd.mem o] at q; cases q
    · exact (pd.dead q).elim
    · omega
theorem Live.lt {g : Gh} {h : Hp} {w : World} (r : HRel g h w) {b : Nat} (l : Live g h b) : b < w.heap.size := by
  rcases l with ⟨id, c, e1, e2⟩ | ⟨t, k, c, n, e1, e2⟩ | ⟨t, e1⟩
  · obtain ⟨b', vs', ty', f1, f2, _⟩ := r.box id c e1
    rw [f1] at e2; cases e2; exact block_lt f2
  · obtain ⟨b', c', vs', ty', f1, f2, _⟩ := r.tok t k e1
    rw [f1] at e2; cases e2; exact block_lt f2
  · obtain ⟨es, k, f1, _⟩ := r.cch b t e1
    exact block_lt f1
theorem HRel.still {g : Gh} {h : Hp} {w : World} (r : HRel g h w) (o : Obj) : HRel g h (w.alloc o) :=
  r.push o g (.refl _) rfl (fun _ _ _ => rfl) (fun o' v e => by rw [r.mem_none o' (Nat.le_refl _)] at e; cases e) (fun b o' hb => r.mem_none o' (Nat.le_of_lt hb)) rfl rfl rfl
theorem Pend.new {g : Gh} {h : Hp} {w : World} (r : HRel g h w) (vs : Array Value) (ty : TypeId) : Step1 g h w g h (w.alloc (.cells vs ty)) ∧ Pend g h (w.alloc (.cells vs ty)) w.heap.size vs ty :=
  ⟨⟨r.still _, .refl _, Keeps.alloc _ _ _, fun b l => .inl l, fun b o v e => .inl e⟩, heap_alloc_new w _, fun l => Nat.lt_irrefl _ (l.lt r), fun o => r.mem_none o (Nat.le_refl _)⟩

theorem Pend.adopt {g : Gh} {h : Hp} {w : World} {b0 : Nat} {vs : Array Value} {ty : TypeId} {g0 : Gh} {h0 : Hp} {w0 : World} (s : Step1 g0 h0 w0 g h w) (hb0 : w0.heap.size ≤ b0) (pd : Pend g h w b0 vs ty) (cs : List AV) (hc : RepL g vs.toList cs) (h1 : ∀ v ∈ vs.toList, v.oneCell' = true) :
    Step1 g0 h0 w0 (g.addBox b0) { h with boxes := h.boxes ++ [(h.nx, cs)], nx := h.nx + 1 } w ∧ Rep (g.addBox b0) (.pointer (some ⟨b0, 0, none⟩)) (.ptr h.nx 0) := by
  have r := s.hp
  have hx := Ext.addBox g b0
  have hg : g.nx = h.nx := r.nx
  have hbox : ∀ i, (g.addBox b0).box i = if i = h.nx then some b0 else g.box i := fun i => by simp [Gh.addBox, hg]
  have old : ∀ i c, lk (h.boxes ++ [(h.nx, cs)]) i = some c → i ≠ h.nx → lk h.boxes i = some c := fun i c e hi => by rwa [lk_snoc_old hi] at e
  have oldS : ∀ i, (lk (h.boxes ++ [(h.nx, cs)]) i).isSome = true → i ≠ h.nx → (lk h.boxes i).isSome = true := fun i e hi => by rwa [lk_snoc_old hi] at e
  have bl : ∀ i, (lk h.boxes i).isSome = true → g.box i ≠ some b0 := fun i e eb => by
    obtain ⟨c, hc⟩ := Option.isSome_iff_exists.1 e
    exact pd.dead (.inl ⟨i, c, hc, eb⟩)
  have tl : ∀ i, (lk h.toks i).isSome = true → ∀ c n, g.tok i ≠ some (b0, c, n) := fun i e c n eb => by
    obtain ⟨k, hc⟩ := Option.isSome_iff_exists.1 e
    exact pd.dead (.inr (.inl ⟨i, k, c, n, hc, eb⟩))
  refine ⟨⟨⟨by simp [Gh.addBox, hg], fun b o v e => r.mem b o v e, fun id c e => ?_, fun t k e => ?_, fun i j b e1 e2 e3 e4 => ?_, fun i j b c n c' n' e1 e2 e3 e4 => r.tktk i j b c n c' n' e1 e2 e3 e4, fun i j b c n e1 e2 e3 e4 => ?_, fun i e => ?_, r.cchUp hx rfl (fun _ _ _ e => e), r.celUp rfl (fun _ _ _ q => ⟨_, _, q⟩)⟩,
    s.ext.trans hx, s.keeps, fun b l => ?_, s.memo⟩, .ptr (by simp [Gh.addBox, r.nx]) (fun b hb => by simp [Gh.addBox, r.nx] at hb; rw [hb])⟩
  · by_cases hi : id = h.nx
    · subst hi
      rw [lk_snoc_new r.lk_fresh_box] at e
      cases e
      exact ⟨b0, vs, ty, by rw [hbox, if_pos rfl], pd.row, hc.mono hx, h1, pd.mem⟩
    · obtain ⟨b, vs', ty', f1, f2, f3, f4, f5⟩ := r.box id c (old id c e hi)
      exact ⟨b, vs', ty', by rw [hbox, if_neg hi]; exact f1, f2, f3.mono hx, f4, f5⟩
  · obtain ⟨b, c, vs', ty', f1, f2, f3, f4, f5, f6, f7, f8, f9⟩ := r.tok t k e
    refine ⟨b, c, vs', ty', f1, f2, f3, f4, f5, f6, fun i y j a g1 g2 => ?_, f8, f9⟩
    obtain ⟨v, g3, g4⟩ := f7 i y j a g1 g2
    exact ⟨v, g3, g4.mono hx⟩
  · rw [hbox] at e1 e2
    by_cases hi : i = h.nx <;> by_cases hj : j = h.nx
    · rw [hi, hj]
    · rw [if_pos hi] at e1; rw [if_neg hj] at e2; cases e1
      exact (bl j (oldS j e4 hj) e2).elim
    · rw [if_neg hi] at e1; rw [if_pos hj] at e2; cases e2
      exact (bl i (oldS i e3 hi) e1).elim
    · rw [if_neg hi] at e1; rw [if_neg hj] at e2
      exact r.bxbx i j b e1 e2 (oldS i e3 hi) (oldS j e4 hj)
  · rw [hbox] at e1
    by_cases hi : i = h.nx
    · rw [if_pos hi] at e1; cases e1
      exact (tl j e4 _ _ e2).elim
    · rw [if_neg hi] at e1
      exact r.bxtk i j b c n e1 e2 (oldS i e3 hi) e4
  · have hi : h.nx ≤ i := Nat.le_of_succ_le e
    have hne : i ≠ h.nx := fun q => by subst q; exact absurd e (Nat.not_succ_le_self _)
    exact ⟨by rw [hbox, if_neg hne]; exact (r.fresh i hi).1, (r.fresh i hi).2⟩
  · rcases l with ⟨id, c, e1, e2⟩ | ⟨t, k, c, n, e1, e2⟩ | e1
    · by_cases hi : id = h.nx
      · rw [hbox, if_pos hi] at e2; cases e2; exact .inr hb0
      · rw [hbox, if_neg hi] at e2
        exact s.live b (.inl ⟨id, c, old id c e1 hi, e2⟩)
    · exact s.live b (.inr (.inl ⟨t, k, c, n, e1, e2⟩))
    · exact s.live b (.inr (.inr e1))

/-- The variable is made by the operation at p: nothing ahead of it names its slot. -/
def statA (ops : Array Oper) (nt p d : Nat) (t : TypeId) : Bool :=
  match ops[p]? with
  | some ⟨some d', .alloc t', _, _, after, none⟩ => t == t' && d == d' && decide (d < nt) && (after.toList.all fun e => !Region.binds .any e || decide (e.on < p)) &&
      (List.range p).all fun i => let q := ops.getD i default; !(q.dst == some d) && !(looks ops q).contains d
  | _ => false

section
variable {P : Program} {ops : Array Oper} {p : Nat} {σ : St}
structure StatA (ops : Array Oper) (nt p d : Nat) (t : TypeId) : Prop where
  it : ∃ o, ops[p]? = some o ∧ o.dst = some d ∧ o.op = .alloc t ∧ o.guard = none ∧ ∀ e ∈ o.after.toList, Region.binds .any e = true → e.on < p
  lt : d < nt
  dst : ∀ i o, i < p → ops[i]? = some o → o.dst ≠ some d
  look : ∀ i o, i < p → ops[i]? = some o → d ∉ looks ops o
theorem StatA.of {nt d : Nat} {t : TypeId} (h : statA ops nt p d t = true) : StatA ops nt p d t := by
  unfold statA at h
  split at h
  · rename_i d' t' ty ps after ho
    simp only [Bool.and_eq_true, beq_iff_eq, decide_eq_true_eq, List.all_eq_true, List.mem_range, Bool.or_eq_true, Bool.not_eq_true'] at h
    obtain ⟨⟨⟨⟨rfl, rfl⟩, h1⟩, h2⟩, h3⟩ := h
    have getD : ∀ j o, ops[j]? = some o → ops.getD j default = o := fun j o e => by rw [Array.getD_eq_getD_getElem?, e]; rfl
    refine ⟨⟨_, ho, rfl, rfl, rfl, fun e he hb => ?_⟩, h1, fun i o hi e q => ?_, fun i o hi e q => ?_⟩
    · rcases h2 e he with h4 | h4
      · rw [hb] at h4; cases h4
      · exact h4
    · have := (h3 i hi).1; rw [getD i o e, q] at this; simp at this
    · have := (h3 i hi).2; rw [getD i o e] at this; simp [q] at this
  · cases h

theorem bef_lt {nt : Nat} (hs : Stat ops nt p) : ∀ i j, Bef ops i j → j < p → i < j := by
  intro i j hb
  induction hb with
  | edge h1 h2 h3 => intro hj; exact hs.back _ _ _ hj h1 h2 h3
  | trans h1 h2 ih1 ih2 => intro hj; have := ih2 hj; have := ih1 (by omega); omega

variable {g0 : Gh} {h0 : Hp} {w0 : World}
/-- THE FIRST p OPERATIONS AND THE ONE BEHIND THEM, THAT MAKES A VARIABLE, IN WHATEVER ORDER. -/
theorem quiet_anyA {ws : List AV} {Q : Exit → Act → World → Prop} {rest d : Nat} {t0 : TypeId} {ti : TI} {z : List AV} (hti : tyOf P t0 = some ti) (hz : ti.zero = some z) (hs : Stat ops σ.nt p) (hA : StatA ops σ.nt p d t0)
    (hd : lk σ.slots d = none) (ht : ∀ i j, i < p + 1 → p + 1 ≤ j → j < ops.size → Bef ops i j) (t : Trace P ops (ops.toList.take p) σ ws)
    (fin : ∀ g w a listed fuel, listed.size = ops.size → (∀ j, isOn listed j = decide (j < p + 1)) → rest ≤ fuel →
      FRel g0 h0 w0 ({ stAt σ (((ops.toList.take p).map fun o : Oper => o.dst).zip ws) with hp := { σ.hp with boxes := σ.hp.boxes ++ [(σ.hp.nx, z)], nx := σ.hp.nx + 1 } }.put (some d) (.ptr σ.hp.nx 0)) g w a → wpAny P .any ops Q fuel listed a w) :
    ∀ (m : Nat) (listed : Array Bool) (fuel : Nat) (g : Gh) (w : World) (a : Act), listed.size = ops.size → (∀ j, isOn listed j = true → j < p + 1) → Closed ops (isOn listed) →
      ((List.range (p + 1)).filter fun j => !isOn listed j).length ≤ m → m + rest ≤ fuel → Half ops p σ ws g0 h0 w0 (fun j => isOn listed j && decide (j < p)) g w a →
      (isOn listed p = true → ∃ b zv, Pend g σ.hp w b zv t0 ∧ w0.heap.size ≤ b ∧ (∀ g, RepL g zv.toList z) ∧ (∀ v ∈ zv.toList, v.oneCell' = true) ∧ a.tmps[d]? = some (.pointer (some ⟨b, 0, none⟩))) → wpAny P .any ops Q fuel listed a w := by
  intro m
  induction m with
  | zero =>
    intro listed fuel g w a hsz hlt hc hm hf hh hp
    have hall : ∀ j, j < p + 1 → isOn listed j = true := fun j hj => by
      cases q : isOn listed j with
      | true => rfl
      | false =>
        have : j ∈ (List.range (p + 1)).filter fun j => !isOn listed j := by simp [hj, q]
        rw [List.eq_nil_of_length_eq_zero (Nat.le_zero.1 hm)] at this
        cases this
    have hon : ∀ j, isOn listed j = decide (j < p + 1) := fun j => by
      by_cases hj : j < p + 1
      · simp [hj, hall j hj]
      · cases q : isOn listed j with
        | true => exact absurd (hlt j q) hj
        | false => simp [hj]
    obtain ⟨b, zv, pd, hb0, hz1, hz2, htm⟩ := hp (hall p (Nat.lt_succ_self p))
    obtain ⟨st, hrep⟩ := pd.adopt hh.st hb0 z (hz1 g) hz2
    refine fin (g.addBox b) w a listed fuel hsz hon (by omega) ⟨?_, fun s v e => ?_, ?_, hh.defers⟩
    · rw [(put_hp _ _ _).1]; exact st
    · have hnt : (stAt σ (((ops.toList.take p).map (·.dst)).zip ws)).nt = σ.nt := (stAt_hp _ σ).2
      simp only [St.put, hnt, hA.lt, if_true, lk] at e
      split at e
      · rename_i hsd
        cases e; subst hsd
        exact ⟨_, htm, hrep⟩
      · rename_i hsd
        have hL : ∀ k, k < p → (isOn listed k && decide (k < p)) = true := fun k hk => by simp [hk, hall k (by omega)]
        have main : ∃ u, a.tmps[s]? = some u ∧ Rep g u v := by
          rcases lk_stAt (nt := σ.nt) _ σ s v rfl (fun k d w' q => by
            have q' := items_get (i := k) (m := k + 1) (by rw [List.getElem?_take, if_pos (by omega)]; exact q)
            obtain ⟨_, o1, q2, q3, _⟩ := q'
            exact hs.bound k o1 d (take_get q2).1 (take_get q2).2 q3) e with ⟨j, h1, h2⟩ | ⟨h1, h2⟩
          · have q' := items_get (i := j) (m := j + 1) (by rw [List.getElem?_take, if_pos (by omega)]; exact h1)
            obtain ⟨_, oj, q1, q2, q3⟩ := q'
            obtain ⟨hjp, q1'⟩ := take_get q1
            refine hh.wrt j oj v s (hL j hjp) q1' q3 q2 (fun k q hjk hLk hk hd => ?_)
            have hkp : k < p := by simp only [Bool.and_eq_true, decide_eq_true_eq] at hLk; exact hLk.2
            obtain ⟨wk, hwk⟩ := t.at (get_take hkp hk)
            have := items_of (m := k + 1) (Nat.lt_succ_self k) (get_take hkp hk) hwk
            rw [List.getElem?_take, if_pos (by omega)] at this
            exact h2 k q.dst wk hjk this hd
          · refine hh.old s v (fun k q hLk hk hd => ?_) h2
            have hkp : k < p := by simp only [Bool.and_eq_true, decide_eq_true_eq] at hLk; exact hLk.2
            obtain ⟨wk, hwk⟩ := t.at (get_take hkp hk)
            have := items_of (m := k + 1) (Nat.lt_succ_self k) (get_take hkp hk) hwk
            rw [List.getElem?_take, if_pos (by omega)] at this
            exact h1 k q.dst wk this hd
        obtain ⟨u, e1, e2⟩ := main
        exact ⟨u, e1, e2.mono (Ext.addBox g b)⟩
    · rw [(put_hp _ _ _).2]; simp only [(stAt_hp _ σ).2]; exact hh.nt
  | succ m ih =>
    intro listed fuel g w a hsz hlt hc hm hf hh hp
    by_cases hz' : ((List.range (p + 1)).filter fun j => !isOn listed j).length ≤ m
    · exact ih listed fuel g w a hsz hlt hc hz' (by omega) hh hp
    · obtain ⟨fuel, rfl⟩ : ∃ f, fuel = f + 1 := ⟨fuel - 1, by omega⟩
      have hex : ∃ j, j < p + 1 ∧ isOn listed j = false := by
        cases q : (List.range (p + 1)).filter fun j => !isOn listed j with
        | nil => rw [q] at hz'; simp at hz'
        | cons x l =>
          have : x ∈ (List.range (p + 1)).filter fun j => !isOn listed j := by rw [q]; simp
          simp only [List.mem_filter, List.mem_range, Bool.not_eq_true'] at this
          exact ⟨x, this⟩
      obtain ⟨oA, hoA, hAd, hAop, hAg, hAe⟩ := hA.it
      have hps : p < ops.size := (Array.getElem?_eq_some_iff.1 hoA).1
      have back : ∀ j o e, j < p + 1 → ops[j]? = some o → e ∈ o.after.toList → Region.binds .any e = true → e.on < j := by
        intro j o e hj ho he hb
        rcases Nat.lt_succ_iff_lt_or_eq.1 hj with hj | rfl
        · exact hs.back j o e hj ho he hb
        · rw [hoA] at ho; cases ho; exact hAe e he hb
      refine ⟨fun hnil => ?_, fun i hi => ?_⟩
      · exfalso
        have least : ∀ n, ∀ j, j ≤ n → j < p + 1 → isOn listed j = false → False := by
          intro n
          induction n using Nat.strongRecOn with
          | _ n ihn =>
            intro j hjn hj hoff
            have hjs : j < ops.size := by omega
            have hready : j ∈ Region.ready .any ops listed := (ready_iff hsz).2 ⟨ops[j], Array.getElem?_eq_getElem hjs, hoff, fun e he hb => by
              have hb' := back j _ e hj (Array.getElem?_eq_getElem hjs) he hb
              cases q : isOn listed e.on with
              | true => rfl
              | false => exact (ihn (e.on) (by omega) e.on (Nat.le_refl _) (by omega) q).elim⟩
            rw [hnil] at hready; cases hready
        obtain ⟨j, hj, hoff⟩ := hex
        exact least j j (Nat.le_refl _) hj hoff
      · obtain ⟨o, ho, hoff, hedges⟩ := (ready_iff hsz).1 hi
        have his : i < ops.size := (Array.getElem?_eq_some_iff.1 ho).1
        have hr := bef_on hc ho hedges
        have hip : i < p + 1 := by
          rcases Nat.lt_or_ge i (p + 1) with h1 | h1
          · exact h1
          · obtain ⟨j, hj, hjoff⟩ := hex
            have := hr j (ht j i hj h1 his)
            rw [hjoff] at this; cases this
        have hon : isOn (listed.setIfInBounds i true) = fun j => if j = i then true else isOn listed j := funext (isOn_set (by omega))
        have hlt' : ∀ j, isOn (listed.setIfInBounds i true) j = true → j < p + 1 := fun j hj => by
          rw [hon] at hj
          by_cases hji : j = i
          · omega
          · simp only [if_neg hji] at hj; exact hlt j hj
        have hc' : Closed ops (isOn (listed.setIfInBounds i true)) := by
          rw [hon]
          intro k j hb hj
          by_cases hki : k = i
          · simp [hki]
          · simp only [if_neg hki]
            by_cases hji : j = i
            · subst hji; exact hr k hb
            · simp only [if_neg hji] at hj; exact hc k j hb hj
        have hm' : ((List.range (p + 1)).filter fun j => !isOn (listed.setIfInBounds i true) j).length ≤ m := by
          have := filter_lt (f := fun j => !isOn listed j) (f' := fun j => !isOn (listed.setIfInBounds i true) j) (l := List.range (p + 1)) (fun x _ hx => by
            rw [hon] at hx
            by_cases hxi : x = i
            · simp [hxi] at hx
            · simpa [hxi] using hx) ⟨i, by simp [hip], by simp [hoff], by rw [hon]; simp⟩
          omega
        have hcL : Closed ops (fun j => isOn listed j && decide (j < p)) := fun k j hb hj => by
          simp only [Bool.and_eq_true, decide_eq_true_eq] at hj ⊢
          have := bef_lt hs k j hb hj.2
          exact ⟨hc k j hb hj.1, by omega⟩
        rcases Nat.lt_succ_iff_lt_or_eq.1 hip with hip' | hip'
        · obtain ⟨v, hv⟩ := t.at (get_take hip' ho)
          obtain ⟨b, hguard, hval, hskip⟩ := t.step i o v (get_take hip' ho) hv
          have hoffL : (isOn listed i && decide (i < p)) = false := by simp [hoff]
          have hltL : ∀ j, (isOn listed j && decide (j < p)) = true → j < p := fun j hj => by simp only [Bool.and_eq_true, decide_eq_true_eq] at hj; exact hj.2
          have hrL : ∀ k, Bef ops k i → (isOn listed k && decide (k < p)) = true := fun k hb => by
            have := bef_lt hs k i hb hip'
            simp only [hr k hb, Bool.true_and, decide_eq_true_eq]; omega
          have look : ∀ s ∈ Ab.looks ops o, ∀ v, lk (stAt σ ((((ops.toList.take p).map (·.dst)).zip ws).take i)).slots s = some v → ∃ u, a.tmps[s]? = some u ∧ Rep g u v :=
            fun s hs' v e => hh.looks hs t hcL hltL hip' ho hoffL hrL hs' e
          have hwant : Region.wanted o (yielded ops a.tmps) = b := by
            rcases hguard with ⟨hg, rfl⟩ | ⟨j, want, c, hg, hbit, rfl⟩
            · simp [Region.wanted, hg]
            · have : (yielded ops a.tmps j == some want) = (c == want) := by
                unfold guardBit at hbit
                split at hbit
                · rename_i d hd
                  split at hbit
                  · rename_i b' hl
                    cases hbit
                    have hmem : d ∈ Ab.looks ops o := by simp only [Ab.looks, hg, List.mem_append]; exact .inr (by rw [hd]; simp)
                    obtain ⟨u, e1, e2⟩ := look d hmem _ hl
                    have := (Rep.of_lit e2).1
                    subst this
                    simp [yielded, hd, e1]
                  · rename_i hl
                    cases hbit
                    have hmem : d ∈ Ab.looks ops o := by simp only [Ab.looks, hg, List.mem_append]; exact .inr (by rw [hd]; simp)
                    obtain ⟨u, e1, e2⟩ := look d hmem _ hl
                    cases e2
                    simp [yielded, hd, e1]
                  · cases hbit
                · cases hbit
              simp [Region.wanted, hg, this]
          have next : ∀ u g' w', Rep g' u v → Step1 g σ.hp w g' σ.hp w' → wpAny P .any ops Q fuel (listed.setIfInBounds i true) (a.put o.dst u) w' := by
            intro u g' w' hu st
            refine ih _ fuel g' w' _ (by simpa using hsz) hlt' hc' hm' (by omega) ?_ ?_
            · have hput := hh.put hs hcL hltL hip' ho hoffL hv hu st
              have : (fun j => isOn (listed.setIfInBounds i true) j && decide (j < p)) = fun j => if j = i then true else (isOn listed j && decide (j < p)) := by
                funext j
                rw [hon]
                by_cases hji : j = i
                · simp [hji, hip']
                · simp [hji]
              rw [this]; exact hput
            · intro hon'
              have hpi : p ≠ i := by omega
              rw [hon] at hon'
              simp only [if_neg hpi] at hon'
              obtain ⟨b, zv, pd, q1, q2, q3, q4⟩ := hp hon'
              refine ⟨b, zv, pd.step st, q1, q2, q3, ?_⟩
              have hne := hA.dst i o hip' ho
              cases hod : o.dst with
              | none => exact q4
              | some d2 =>
                have : d2 ≠ d := fun q => hne (by rw [hod, q])
                simp only [Act.put, Array.getElem?_setIfInBounds_ne this]; exact q4
          unfold wpOp
          simp only [ho]
          cases b with
          | true =>
            rw [if_pos hwant]
            refine .inl ?_
            let ρ : St := ⟨((Ab.looks ops o).filterMap fun s => (lk (stAt σ ((((ops.toList.take p).map (·.dst)).zip ws).take i)).slots s).map fun v => (s, v)), σ.hp, σ.nt⟩
            have lkρ : ∀ (l : List Nat) (f : Nat → Option AV) (s : Nat) (v : AV), lk (l.filterMap fun s => (f s).map fun v => (s, v)) s = some v → s ∈ l ∧ f s = some v := by
              intro l f
              induction l with
              | nil => intro s v e; cases e
              | cons x l ih =>
                intro s v e
                rw [List.filterMap_cons] at e
                cases q : f x with
                | none => simp only [q, Option.map_none] at e; obtain ⟨h1, h2⟩ := ih s v e; exact ⟨by simp [h1], h2⟩
                | some y =>
                  simp only [q, Option.map_some, lk] at e
                  split at e
                  · rename_i hx; cases e; subst hx; exact ⟨by simp, q⟩
                  · obtain ⟨h1, h2⟩ := ih s v e; exact ⟨by simp [h1], h2⟩
            have lkρ2 : ∀ (l : List Nat) (f : Nat → Option AV) (s : Nat), s ∈ l → lk (l.filterMap fun s => (f s).map fun v => (s, v)) s = f s := by
              intro l f
              induction l with
              | nil => intro s h; cases h
              | cons x l ih =>
                intro s hmem
                rw [List.filterMap_cons]
                by_cases hx : x = s
                · subst hx
                  cases q : f x with
                  | none =>
                    simp only [Option.map_none]
                    by_cases hm : x ∈ l
                    · rw [ih x hm, q]
                    · cases q2 : lk (l.filterMap fun s => (f s).map fun v => (s, v)) x with
                      | none => rfl
                      | some y => exact absurd (lkρ l f x y q2).1 hm
                  | some y => simp [lk]
                · have hm : s ∈ l := by simp only [List.mem_cons] at hmem; rcases hmem with h1 | h1; exact absurd h1.symm hx; exact h1
                  cases q : f x with
                  | none => simp only [Option.map_none]; exact ih s hm
                  | some y => simp only [Option.map_some, lk, if_neg hx]; exact ih s hm
            have fr : FRel g0 h0 w0 ρ g w a := ⟨hh.st, fun s v e => by
              obtain ⟨h1, h2⟩ := lkρ _ _ s v e
              exact look s h1 v h2, hh.nt, hh.defers⟩
            have hv' : valOp P ρ o v := valOp_congr (σ := stAt σ ((((ops.toList.take p).map (·.dst)).zip ws).take i)) (stAt_hp _ σ).1 (fun x hx => by
              cases x with
              | tmp s =>
                have hmem : s ∈ Ab.looks ops o := by
                  simp only [Ab.looks, List.mem_append, List.mem_filterMap]
                  exact .inl ⟨.tmp s, by simpa using hx, rfl⟩
                exact (lkρ2 _ (fun s => lk (stAt σ ((((ops.toList.take p).map (·.dst)).zip ws).take i)).slots s) s hmem).symm
              | const c => rfl
              | «global» q => rfl
              | func f => rfl) (hval rfl)
            exact valOp_sound fr hv' next
          | false =>
            rw [if_neg (by rw [hwant]; simp)]
            have := hskip rfl
            subst this
            exact next undef g w (Rep.tup (cs := #[]) (as := []) rfl (by simp)) (.refl hh.st.hp)
        · subst hip'
          rw [hoA] at ho; cases ho
          obtain ⟨i', d', e1, e2, e3, e4, e5, e6⟩ := tyOf_some hti
          obtain ⟨zv, z1, z2⟩ := e6 z hz
          have z3 := fun g => (RepL.cellsAV (g := g) z2)
          obtain ⟨k1, k2⟩ := Pend.new hh.st.hp zv.cells t0
          unfold wpOp
          simp only [hoA, Region.wanted, hAg, if_true]
          refine .inl ?_
          unfold Oper.wp
          rw [show (execOp a.eval oA).run P w = .ok (.value (.pointer (some ⟨w.heap.size, 0, none⟩))) (w.alloc (.cells zv.cells t0)) by simp [execOp, hAop, Instr.alloc, zeroValue, typeInfo, e1, z1, newVar, newRow]]
          show wpAny P .any ops Q fuel (listed.setIfInBounds i true) (a.put oA.dst _) _
          rw [hAd]
          have keep : ∀ u s, d ≠ s → (a.put (some d) u).tmps[s]? = a.tmps[s]? := fun u s hs' => by
            simp only [Act.put, Array.getElem?_setIfInBounds_ne hs']
          have hL : (fun j => isOn (listed.setIfInBounds i true) j && decide (j < i)) = fun j => isOn listed j && decide (j < i) := by
            funext j
            rw [hon]
            by_cases hji : j = i
            · simp [hji]
            · simp [hji]
          refine ih _ fuel g _ _ (by simpa using hsz) hlt' hc' hm' (by omega) ?_ fun _ => ?_
          · rw [hL]
            refine ⟨hh.st.trans k1, by simp [Act.put, hh.nt], by simp [Act.put, hh.defers], fun j oj vj s hLj hj hwj hds hlast => ?_, fun s v hno e => ?_⟩
            · have hji : j < i := by simp only [Bool.and_eq_true, decide_eq_true_eq] at hLj; exact hLj.2
              have hne : d ≠ s := fun q => hA.dst j oj hji hj (by rw [hds, q])
              rw [keep _ s hne]
              exact hh.wrt j oj vj s hLj hj hwj hds hlast
            · have hne : d ≠ s := fun q => by subst q; rw [hd] at e; cases e
              rw [keep _ s hne]
              exact hh.old s v hno e
          · refine ⟨w.heap.size, zv.cells, k2, hh.st.keeps.size, fun g => (z3 g).1, (z3 g).2, ?_⟩
            have hlt2 : d < a.tmps.size := by rw [hh.nt]; exact hA.lt
            simp [Act.put, hlt2]

def afterA (P : Program) (ops : Array Oper) (t : OT) (N : Nat) (σ' : St) (d : Nat) (z : List AV) (σ1 : St) : Prop :=
  σ1.hp.nx + 1 ≤ N ∧ walkT P ops t (fun σ2 => St.cp N σ2 σ') ({ σ1 with hp := { σ1.hp with boxes := σ1.hp.boxes ++ [(σ1.hp.nx, z)], nx := σ1.hp.nx + 1 } }.put (some d) (.ptr σ1.hp.nx 0))
theorem Xbt {t : OT} {N : Nat} {σ' : St} {d : Nat} {z : List AV} {sl : List (Nat × AV)} {bx : List (Nat × List AV)} {tk : List (Nat × Tk)} {nx nt : Nat} :
    afterA P ops t N σ' d z ⟨sl, ⟨bx, tk, nx⟩, nt⟩ = (nx + 1 ≤ N ∧ walkT P ops t (fun σ2 => St.cp N σ2 σ') ((⟨sl, ⟨bx ++ [(nx, z)], tk, nx + 1⟩, nt⟩ : St).put (some d) (.ptr nx 0))) := rfl

/-- A REGION: the first p operations change nothing, the next makes a variable; the others in each order of the tree. Behind it the walk goes on from one state. -/
theorem aw_drawA {Q : Exit → St → Prop} {σ' : St} {n : Nat} (N : Nat) {id : Nat} {l : List Oper} (p d : Nat) (t0 : TypeId) (t : OT) {ti : TI} {z : List AV} (hti : tyOf P t0 = some ti) (hz : ti.zero = some z) (hsd : lk σ.slots d = none) (hn : σ.nt = n)
    (hB : statB l.toArray n p = true) (hA : statA l.toArray n p d t0 = true) (hT : statT l.toArray (p + 1) = true) (hm : P.follows .mixedOrders = true)
    (hok : okT l.toArray t (Array.ofFn fun j : Fin l.length => decide (j.val < p + 1)) none = true) (hd : decide (p + 1 + t.depth ≤ l.length) = true)
    (h : qwl P l.toArray (l.take p) (afterA P l.toArray t N σ' d z) σ) (k : Q .normal σ') : Aw P (.region id l.toArray true) Q σ := by
  intro g0 h0 w0 g w a r
  obtain ⟨ws, tr, hK⟩ := qwl_trace _ σ h
  have hB' : statB l.toArray σ.nt p = true := by rw [hn]; exact hB
  have hA' : statA l.toArray σ.nt p d t0 = true := by rw [hn]; exact hA
  have hs := Stat.of_B hB'
  refine wp_region_any hm ?_
  have off : ∀ j, isOn (Array.replicate l.toArray.size false) j = false := fun j => by
    unfold isOn
    simp only [Array.getD_eq_getD_getElem?, Array.getElem?_replicate]
    split <;> rfl
  have hd' : p + 1 + t.depth ≤ l.length := by simpa using hd
  refine quiet_anyA (rest := t.depth) hti hz hs (StatA.of hA') hsd (fun i j hi hj hn => statT_sound hT hi hj hn) (by simpa using tr) ?_ (p + 1) _ _ g _ a (by simp) (fun j hj => by rw [off] at hj; cases hj) (fun i j _ hj => by rw [off] at hj; cases hj) (by
      refine Nat.le_trans (List.length_filter_le _ _) ?_
      simp) (by simpa using hd') ⟨⟨r.st.hp.drew, r.st.ext, r.st.keeps.trans (Keeps.drew (Live g σ.hp) w) r.st.live, r.st.live, r.st.memo⟩, r.nt, r.defers, fun j o v s hL => (by rw [off] at hL; cases hL), fun s v _ e => r.slots s v e⟩ (fun q => by rw [off] at q; cases q)
  intro g w a listed fuel hsz hon hf fr
  unfold afterA at hK
  simp only [(stAt_hp _ σ).1] at hK
  obtain ⟨hNN, hK⟩ := hK
  have hg : g0.nx ≤ N := by
    have h1 : g0.nx ≤ g.nx := fr.st.ext.nx
    have h2 := fr.st.hp.nx
    rw [(put_hp _ _ _).1] at h2
    simp only at h2
    rw [h2] at h1; omega
  have hl : listed = Array.ofFn fun j : Fin l.length => decide (j.val < p + 1) := by
    apply Array.ext
    · simpa using hsz
    · intro j h1 h2
      have := hon j
      unfold isOn at this
      simp only [Array.getD_eq_getD_getElem?, Array.getElem?_eq_getElem h1, Option.getD_some] at this
      simp [this]
  subst hl
  have base := tail_any (Q := fun e σ1 => match e with | .normal => St.cp N σ1 σ' | _ => False) (g0 := g0) (h0 := h0) (w0 := w0) t.depth t _ _ g w a fuel (Nat.le_refl _) hok hK fr hf
  have mono : ∀ (n : Nat) (listed : Array Bool) (a : Act) (w : World), wpAny P .any l.toArray (Post g0 h0 w0 fun e σ1 => match e with | .normal => St.cp N σ1 σ' | _ => False) n listed a w → wpAny P .any l.toArray (Post g0 h0 w0 Q) n listed a w := by
    have post : ∀ e a w, Post g0 h0 w0 (fun e σ1 => match e with | .normal => St.cp N σ1 σ' | _ => False) e a w → Post g0 h0 w0 Q e a w := fun e a w ⟨σ2, g2, k1, k2⟩ => by
      cases e with
      | normal => obtain ⟨g3, k3⟩ := k1 g0 h0 w0 g2 w a hg k2; exact ⟨σ', g3, k, k3⟩
      | _ => exact k1.elim
    intro n
    induction n with
    | zero => intro listed a w h; exact ⟨h.1, post _ _ _ h.2⟩
    | succ n ih =>
      intro listed a w h
      refine ⟨fun q => post _ _ _ (h.1 q), fun i hi => ?_⟩
      have := h.2 i hi
      unfold wpOp at this ⊢
      split
      · rename_i ho; rw [ho] at this; exact ih _ _ _ this
      · rename_i o ho
        rw [ho] at this
        simp only at this
        split
        · rename_i hw
          rw [if_pos hw] at this
          rcases this with h1 | ⟨h1, a', w', h2⟩
          · exact .inl (wp_op_mono (fun a w => ih _ a w) post h1)
          · exact .inr ⟨h1, a', w', post _ _ _ h2⟩
        · rename_i hw; rw [if_neg hw] at this; exact ih _ _ _ this
  exact mono _ _ _ _ base
end
end Go.Ab
