/- Regions that draw their order, and hold one call that changes the heap somewhere on the way: it comes to the same as if it were made in the text's order. Conditions: those that each theorem names. -/
import Derived.Test.YtfnmdmadaljjkaaDrawL
set_option linter.unusedVariables false
set_option linter.unusedSimpArgs false
namespace Go.Ab

/-- An operation that looks at variables alone. -/
def calm (o : Oper) : Bool :=
  match o.op with
  | .move _ => true
  | .assign _ => true
  | .load _ _ => true
  | .fieldAddr _ _ _ => true
  | .binOp _ _ _ _ _ => true
  | _ => false
/-- A call that leaves the heap otherwise. -/
def effC (P : Program) (σ : St) (o : Oper) (v : AV) (hF : Hp) : Prop :=
  match o.op with
  | .call ⟨.value f, args, _⟩ => ∃ q as, pairO ((ev σ f).bind fnOf) (evL σ args.toList) = some (q, as) ∧ Callable P q.1 ∧ SCall P q.1 (q.2.1 ++ as ++ q.2.2) σ.hp fun r h' => r = v ∧ h' = hF
  | _ => False

theorem ev_hp {σ : St} {h : Hp} (x : Operand) : ev { σ with hp := h } x = ev σ x := by cases x <;> rfl
theorem evL_hp {σ : St} {h : Hp} (l : List Operand) : evL { σ with hp := h } l = evL σ l := evL_congr fun x _ => ev_hp x
theorem rowOf_mono {B : List (Nat × List AV)} {L : List (Nat × Tk)} {n m : Nat} {p : AV} {x : List AV × Nat} (h : rowOf ⟨B, [], n⟩ p = some x) : rowOf ⟨B, L, m⟩ p = some x := by
  cases p with
  | ep t n' s i off => simp only [rowOf, lk] at h; cases h
  | _ => exact h
theorem calm_mono {P : Program} {σ : St} {o : Oper} {v : AV} {B : List (Nat × List AV)} {L : List (Nat × Tk)} {n m : Nat} (hc : calm o = true) (h : valOp P { σ with hp := ⟨B, [], n⟩ } o v) : valOp P { σ with hp := ⟨B, L, m⟩ } o v := by
  have key : ∀ op : Op, (∀ c x y, op ≠ .pick c x y) → (∀ f a t, op ≠ .call ⟨.value f, a, t⟩) → calm { o with op := op } = true → qOp P { σ with hp := ⟨B, [], n⟩ } op = some v → qOp P { σ with hp := ⟨B, L, m⟩ } op = some v := by
    intro op _ _ hc h
    cases op with
    | load t x =>
      unfold qOp at h ⊢
      simp only [pureOp, ev_hp] at h ⊢
      cases h1 : tyOf P t with
      | none => rw [h1] at h; cases h
      | some ti =>
        cases h2 : ev σ x with
        | none => rw [h1, h2] at h; cases h
        | some p =>
          simp only [h1, h2] at h ⊢
          cases h3 : rowOf ⟨B, [], n⟩ p with
          | none => rw [h3] at h; cases h
          | some y => rw [h3] at h; rw [rowOf_mono h3]; exact h
    | move x => unfold qOp at h ⊢; simp only [pureOp, ev_hp] at h ⊢; exact h
    | assign x => unfold qOp at h ⊢; simp only [pureOp, ev_hp] at h ⊢; exact h
    | fieldAddr t x f => unfold qOp at h ⊢; simp only [pureOp, ev_hp] at h ⊢; exact h
    | binOp a b c d e => unfold qOp at h ⊢; simp only [pureOp, ev_hp] at h ⊢; exact h
    | _ => cases hc
  have ho : ∀ op, o.op = op → calm { o with op := op } = true := fun op e => by rw [← e]; exact hc
  unfold valOp at h ⊢
  cases hop : o.op with
  | pick c x y => have := ho _ hop; cases this
  | call c => have := ho _ hop; cases this
  | _ =>
    rw [hop] at h
    exact key _ (by simp) (by simp) (ho _ hop) h

section
variable {P : Program} {ops : Array Oper} {p : Nat} {σ : St} {g0 : Gh} {h0 : Hp} {w0 : World}
theorem effC_congr {σ' : St} {o : Oper} {v : AV} {hF : Hp} (hp : σ.hp = σ'.hp) (h : ∀ x ∈ o.op.operands, ev σ x = ev σ' x) (k : effC P σ o v hF) : effC P σ' o v hF := by
  unfold effC at *
  split at k
  · rename_i f args tys ho
    rw [ho] at h
    have h1 : evL σ args.toList = evL σ' args.toList := evL_congr fun y hy => h y (by simp only [Op.operands, Call.operands, Array.mem_append]; exact .inr (by simpa using hy))
    have h2 : ev σ f = ev σ' f := h f (by simp [Op.operands, Call.operands])
    rw [h1, h2, hp] at k
    exact k
  · exact k.elim
theorem effC_sound {g : Gh} {w : World} {a : Act} {o : Oper} (r : FRel g0 h0 w0 σ g w a) {v : AV} {hF : Hp} (h : effC P σ o v hF) {next : Act → World → Prop} {Q : Exit → Act → World → Prop}
    (hn : ∀ u g' w', Rep g' u v → Step1 g σ.hp w g' hF w' → next (a.put o.dst u) w') : o.wp P a w next Q := by
  unfold effC at h
  split at h
  · rename_i f args tys ho
    obtain ⟨q, as, hpq, ⟨fn, k1, k2, k3⟩, hc⟩ := h
    unfold pairO at hpq
    split at hpq
    · rename_i q' as' hf ha
      cases hpq
      obtain ⟨fv, h1, h2⟩ := Option.bind_eq_some_iff.1 hf
      obtain ⟨id, first, cap⟩ := q
      have := fnOf_some h2; subst this
      have hv := r.ev h1
      have hl := r.evL ha
      generalize hu : a.eval f = u at hv
      cases hv with
      | fn p1 p2 p3 p4 =>
        rename_i fs cs
        have hargs : RepL g (fs ++ args.map a.eval ++ cs).toList (first ++ as ++ cap) := by
          simp only [Array.toList_append, Array.toList_map]
          exact (RepL.append (RepL.append ⟨p1, p2⟩ hl) ⟨p3, p4⟩)
        have hrun : (execOp a.eval o).run P w = .ok (.enter id (fs ++ args.map a.eval ++ cs)) w := by
          simp only at k1 k2 k3
          simp only [execOp, ho, Sem.run_bind, resolve, hu, Deferred.ofValue, Sem.run_pure, Result.andThen_ok, invoke, callFunc, run_program, k1, k2, k3]
          simp
        unfold Oper.wp
        rw [hrun]
        refine (hc g w _ r.st.hp hargs).mono fun e w' hh => ?_
        obtain ⟨v', rr, h', g', he, hr, hs, rfl, rfl⟩ := hh
        subst he
        exact hn _ g' w' hr hs
    · cases hpq
  · exact h.elim

theorem stAt_set : ∀ (l : List (Option Tmp × AV)) (σ : St) (h : Hp), stAt { σ with hp := h } l = { stAt σ l with hp := h }
  | [], σ, h => rfl
  | (d, w) :: l, σ, h => by
    have : ({ σ with hp := h } : St).put d w = { σ.put d w with hp := h } := by
      cases d with
      | none => rfl
      | some d => simp only [St.put]; split <;> rfl
    show stAt (({ σ with hp := h } : St).put d w) l = _
    rw [this]
    exact stAt_set l (σ.put d w) h

/-- The walk's trace, where the operation at f changes the heap. -/
structure TraceF (P : Program) (ops : Array Oper) (f : Nat) (hF : Hp) (l : List Oper) (σ : St) (ws : List AV) : Prop where
  len : ws.length = l.length
  step : ∀ i o w, l[i]? = some o → ws[i]? = some w → ∃ b, (o.guard = none ∧ b = true ∨ ∃ j want c, o.guard = some (j, want) ∧ guardBit ops (stAt σ ((l.map (·.dst)).zip ws |>.take i)) j want = some c ∧ b = (c == want)) ∧
    (b = true → (i < f → valOp P (stAt σ ((l.map (·.dst)).zip ws |>.take i)) o w ∧ valOp P { stAt σ ((l.map (·.dst)).zip ws |>.take i) with hp := hF } o w) ∧
      (i = f → effC P (stAt σ ((l.map (·.dst)).zip ws |>.take i)) o w hF) ∧ (f < i → valOp P { stAt σ ((l.map (·.dst)).zip ws |>.take i) with hp := hF } o w)) ∧ (b = false → w = .tup [] ∧ i ≠ f)
theorem TraceF.at {f : Nat} {hF : Hp} {l : List Oper} {ws : List AV} (t : TraceF P ops f hF l σ ws) {i : Nat} {o : Oper} (h : l[i]? = some o) : ∃ w, ws[i]? = some w := by
  have hi : i < ws.length := by rw [t.len]; exact (List.getElem?_eq_some_iff.1 h).1
  exact ⟨ws[i], List.getElem?_eq_getElem hi⟩

/-- What an operation looks at is as in the walk. -/
theorem Half.looksF {f : Nat} {hF c : Hp} {ws : List AV} {L : Nat → Bool} {g : Gh} {w : World} {a : Act} (hs : Stat ops σ.nt p) (t : TraceF P ops f hF (ops.toList.take p) σ ws) (hh : Half ops p { σ with hp := c } ws g0 h0 w0 L g w a) (hc : Closed ops L) (hlt : ∀ j, L j = true → j < p)
    {i : Nat} {o : Oper} (hi : i < p) (ho : ops[i]? = some o) (hu : L i = false) (hr : ∀ k, Bef ops k i → L k = true) {s : Nat} (hl : s ∈ Ab.looks ops o) {v : AV}
    (e : lk (stAt σ ((((ops.toList.take p).map (·.dst)).zip ws).take i)).slots s = some v) : ∃ u, a.tmps[s]? = some u ∧ Rep g u v := by
  rcases lk_stAt (nt := σ.nt) _ σ s v rfl (fun k d w' q => by
    obtain ⟨_, q1, q2, q3, _⟩ := items_get q
    exact hs.bound k q1 d (take_get q2).1 (take_get q2).2 q3) e with ⟨j, h1, h2⟩ | ⟨h1, h2⟩
  · obtain ⟨hji, oj, q1, q2, q3⟩ := items_get h1
    obtain ⟨hjp, q1'⟩ := take_get q1
    refine hh.wrt j oj v s (hr j (hs.sep j i oj o hji hi q1' ho (.inl ⟨s, q2, .inl hl⟩))) q1' q3 q2 (fun k q hjk hLk hk hd => ?_)
    rcases Nat.lt_trichotomy k i with hki | hki | hki
    · obtain ⟨wk, hwk⟩ := t.at (get_take (by omega) hk)
      exact h2 k q.dst wk hjk (items_of hki (get_take (by omega) hk) hwk) hd
    · subst hki; rw [hu] at hLk; cases hLk
    · have := hc i k (hs.sep i k o q hki (hlt k hLk) ho hk (.inr ⟨s, hd, hl⟩)) hLk
      rw [hu] at this; cases this
  · refine hh.old s v (fun k q hLk hk hd => ?_) h2
    rcases Nat.lt_trichotomy k i with hki | hki | hki
    · obtain ⟨wk, hwk⟩ := t.at (get_take (by omega) hk)
      exact h1 k q.dst wk (items_of hki (get_take (by omega) hk) hwk) hd
    · subst hki; rw [hu] at hLk; cases hLk
    · have := hc i k (hs.sep i k o q hki (hlt k hLk) ho hk (.inr ⟨s, hd, hl⟩)) hLk
      rw [hu] at this; cases this

/-- One operation more has run, that may have changed the heap. -/
theorem Half.putF {ws : List AV} {L : Nat → Bool} {g g' : Gh} {w w' : World} {a : Act} {c c' : Hp} (hs : Stat ops σ.nt p) (hh : Half ops p { σ with hp := c } ws g0 h0 w0 L g w a) (hc : Closed ops L) (hlt : ∀ j, L j = true → j < p)
    {i : Nat} {o : Oper} (hi : i < p) (ho : ops[i]? = some o) (hu : L i = false) {v : AV} (hw : ws[i]? = some v) {u : Value} (hv : Rep g' u v) (st : Step1 g c w g' c' w') :
    Half ops p { σ with hp := c' } ws g0 h0 w0 (fun j => if j = i then true else L j) g' w' (a.put o.dst u) := by
  have keep : ∀ s, o.dst ≠ some s → (a.put o.dst u).tmps[s]? = a.tmps[s]? := fun s hs' => by
    cases hd : o.dst with
    | none => rfl
    | some d =>
      have : d ≠ s := fun q => hs' (by rw [hd, q])
      simp only [Act.put, Array.getElem?_setIfInBounds_ne this]
  have hnt : a.tmps.size = σ.nt := hh.nt
  refine ⟨hh.st.trans st, by cases hd : o.dst <;> simp [Act.put, hnt], by cases hd : o.dst <;> simp [Act.put, hh.defers], fun j oj vj s hL hj hwj hd hlast => ?_, fun s v' hno e => ?_⟩
  · by_cases hji : j = i
    · subst hji
      rw [ho] at hj; cases hj
      rw [hw] at hwj; cases hwj
      refine ⟨u, ?_, hv⟩
      rw [hd]
      have hlt' : s < a.tmps.size := by rw [hnt]; exact hs.bound j o s hi ho hd
      simp [Act.put, hlt']
    · simp only [if_neg hji] at hL
      have hne : o.dst ≠ some s := fun hod => by
        rcases Nat.lt_or_gt_of_ne hji with hlt' | hgt
        · exact hlast i o hlt' (by simp) ho hod
        · have := hc i j (hs.sep i j o oj hgt (hlt j hL) ho hj (.inl ⟨s, hod, .inr hd⟩)) hL
          rw [hu] at this; cases this
      obtain ⟨u', e1, e2⟩ := hh.wrt j oj vj s hL hj hwj hd (fun k q hk hLk hq hqd => hlast k q hk (by by_cases hki : k = i <;> simp [hki, hLk]) hq hqd)
      exact ⟨u', (keep s hne).trans e1, e2.mono st.ext⟩
  · have hne : o.dst ≠ some s := hno i o (by simp) ho
    obtain ⟨u', e1, e2⟩ := hh.old s v' (fun j oj hL hj => hno j oj (by by_cases hji : j = i <;> simp [hji, hL]) hj) e
    exact ⟨u', (keep s hne).trans e1, e2.mono st.ext⟩

/-- The heap, before or behind it. -/
def hpF (listed : Array Bool) (f : Nat) (h hF : Hp) : Hp := if isOn listed f = true then hF else h

/-- THE FIRST p OPERATIONS IN WHATEVER ORDER, OF WHICH THE ONE AT f CHANGES THE HEAP. -/
theorem quiet_anyF {ws : List AV} {Q : Exit → Act → World → Prop} {rest f : Nat} {hF : Hp} (hs : Stat ops σ.nt p) (hf : f < p) (hfb : ∀ i, f < i → i < p → Bef ops f i) (ht : ∀ i j, i < p → p ≤ j → j < ops.size → Bef ops i j) (t : TraceF P ops f hF (ops.toList.take p) σ ws)
    (fin : ∀ g w a listed fuel, listed.size = ops.size → (∀ j, isOn listed j = decide (j < p)) → rest ≤ fuel → FRel g0 h0 w0 { stAt σ (((ops.toList.take p).map (·.dst)).zip ws) with hp := hF } g w a → wpAny P .any ops Q fuel listed a w) :
    ∀ (m : Nat) (listed : Array Bool) (fuel : Nat) (g : Gh) (w : World) (a : Act), listed.size = ops.size → (∀ j, isOn listed j = true → j < p) → Closed ops (isOn listed) →
      ((List.range p).filter fun j => !isOn listed j).length ≤ m → m + rest ≤ fuel → Half ops p { σ with hp := hpF listed f σ.hp hF } ws g0 h0 w0 (isOn listed) g w a → wpAny P .any ops Q fuel listed a w := by
  intro m
  induction m with
  | zero =>
    intro listed fuel g w a hsz hlt hc hm hfu hh
    have hall : ∀ j, j < p → isOn listed j = true := fun j hj => by
      cases q : isOn listed j with
      | true => rfl
      | false =>
        have : j ∈ (List.range p).filter fun j => !isOn listed j := by simp [hj, q]
        rw [List.eq_nil_of_length_eq_zero (Nat.le_zero.1 hm)] at this
        cases this
    have hon : ∀ j, isOn listed j = decide (j < p) := fun j => by
      by_cases hj : j < p
      · simp [hj, hall j hj]
      · cases q : isOn listed j with
        | true => exact absurd (hlt j q) hj
        | false => simp [hj]
    have hcur : hpF listed f σ.hp hF = hF := by simp [hpF, hall f hf]
    rw [hcur] at hh
    refine fin g w a listed fuel hsz hon (by omega) ⟨hh.st, fun s v e => ?_, ?_, hh.defers⟩
    · rcases lk_stAt (nt := σ.nt) _ σ s v rfl (fun k d w' q => by
        have q' := items_get (i := k) (m := k + 1) (by rw [List.getElem?_take, if_pos (by omega)]; exact q)
        obtain ⟨_, o1, q2, q3, _⟩ := q'
        exact hs.bound k o1 d (take_get q2).1 (take_get q2).2 q3) e with ⟨j, h1, h2⟩ | ⟨h1, h2⟩
      · have q' := items_get (i := j) (m := j + 1) (by rw [List.getElem?_take, if_pos (by omega)]; exact h1)
        obtain ⟨_, oj, q1, q2, q3⟩ := q'
        obtain ⟨hjp, q1'⟩ := take_get q1
        refine hh.wrt j oj v s (hall j hjp) q1' q3 q2 (fun k q hjk hLk hk hd => ?_)
        have hkp := hlt k hLk
        obtain ⟨wk, hwk⟩ := t.at (get_take hkp hk)
        have := items_of (m := k + 1) (Nat.lt_succ_self k) (get_take hkp hk) hwk
        rw [List.getElem?_take, if_pos (by omega)] at this
        exact h2 k q.dst wk hjk this hd
      · refine hh.old s v (fun k q hLk hk hd => ?_) h2
        have hkp := hlt k hLk
        obtain ⟨wk, hwk⟩ := t.at (get_take hkp hk)
        have := items_of (m := k + 1) (Nat.lt_succ_self k) (get_take hkp hk) hwk
        rw [List.getElem?_take, if_pos (by omega)] at this
        exact h1 k q.dst wk this hd
    · show a.tmps.size = (stAt σ _).nt
      rw [(stAt_hp _ σ).2]; exact hh.nt
  | succ m ih =>
    intro listed fuel g w a hsz hlt hc hm hfu hh
    by_cases hz : ((List.range p).filter fun j => !isOn listed j).length ≤ m
    · exact ih listed fuel g w a hsz hlt hc hz (by omega) hh
    · obtain ⟨fuel, rfl⟩ : ∃ f, fuel = f + 1 := ⟨fuel - 1, by omega⟩
      have hex : ∃ j, j < p ∧ isOn listed j = false := by
        cases q : (List.range p).filter fun j => !isOn listed j with
        | nil => rw [q] at hz; simp at hz
        | cons x l =>
          have : x ∈ (List.range p).filter fun j => !isOn listed j := by rw [q]; simp
          simp only [List.mem_filter, List.mem_range, Bool.not_eq_true'] at this
          exact ⟨x, this⟩
      refine ⟨fun hnil => ?_, fun i hi => ?_⟩
      · exfalso
        have least : ∀ n, ∀ j, j ≤ n → j < p → isOn listed j = false → False := by
          intro n
          induction n using Nat.strongRecOn with
          | _ n ihn =>
            intro j hjn hj hoff
            have hjs : j < ops.size := Nat.lt_of_lt_of_le hj hs.le
            have hready : j ∈ Region.ready .any ops listed := (ready_iff hsz).2 ⟨ops[j], Array.getElem?_eq_getElem hjs, hoff, fun e he hb => by
              have hb' := hs.back j _ e hj (Array.getElem?_eq_getElem hjs) he hb
              cases q : isOn listed e.on with
              | true => rfl
              | false => exact (ihn (e.on) (by omega) e.on (Nat.le_refl _) (by omega) q).elim⟩
            rw [hnil] at hready; cases hready
        obtain ⟨j, hj, hoff⟩ := hex
        exact least j j (Nat.le_refl _) hj hoff
      · obtain ⟨o, ho, hoff, hedges⟩ := (ready_iff hsz).1 hi
        have his : i < ops.size := (Array.getElem?_eq_some_iff.1 ho).1
        have hr := bef_on hc ho hedges
        have hip : i < p := by
          rcases Nat.lt_or_ge i p with h1 | h1
          · exact h1
          · obtain ⟨j, hj, hjoff⟩ := hex
            have := hr j (ht j i hj h1 his)
            rw [hjoff] at this; cases this
        obtain ⟨v, hv⟩ := t.at (get_take hip ho)
        obtain ⟨b, hguard, hval, hskip⟩ := t.step i o v (get_take hip ho) hv
        have look : ∀ s ∈ Ab.looks ops o, ∀ v, lk (stAt σ ((((ops.toList.take p).map (·.dst)).zip ws).take i)).slots s = some v → ∃ u, a.tmps[s]? = some u ∧ Rep g u v :=
          fun s hs' v e => hh.looksF hs t hc hlt hip ho hoff hr hs' e
        have hwant : Region.wanted o (yielded ops a.tmps) = b := by
          rcases hguard with ⟨hg, rfl⟩ | ⟨j, want, c, hg, hbit, rfl⟩
          · simp [Region.wanted, hg]
          · have : (yielded ops a.tmps j == some want) = (c == want) := by
              unfold guardBit at hbit
              split at hbit
              · rename_i d hd
                split at hbit
                · rename_i b' hl
                  cases hbit
                  have hmem : d ∈ Ab.looks ops o := by simp only [Ab.looks, hg, List.mem_append]; exact .inr (by rw [hd]; simp)
                  obtain ⟨u, e1, e2⟩ := look d hmem _ hl
                  have := (Rep.of_lit e2).1
                  subst this
                  simp [yielded, hd, e1]
                · rename_i hl
                  cases hbit
                  have hmem : d ∈ Ab.looks ops o := by simp only [Ab.looks, hg, List.mem_append]; exact .inr (by rw [hd]; simp)
                  obtain ⟨u, e1, e2⟩ := look d hmem _ hl
                  cases e2
                  simp [yielded, hd, e1]
                · cases hbit
              · cases hbit
            simp [Region.wanted, hg, this]
        have hon : isOn (listed.setIfInBounds i true) = fun j => if j = i then true else isOn listed j := funext (isOn_set (by omega))
        have nextc : ∀ c' u g' w', hpF (listed.setIfInBounds i true) f σ.hp hF = c' → Rep g' u v → Step1 g (hpF listed f σ.hp hF) w g' c' w' → wpAny P .any ops Q fuel (listed.setIfInBounds i true) (a.put o.dst u) w' := by
          intro c' u g' w' hcur hu st
          refine ih _ fuel g' w' _ (by simpa using hsz) (fun j hj => ?_) ?_ ?_ (by omega) ?_
          · rw [hon] at hj
            by_cases hji : j = i
            · omega
            · simp only [if_neg hji] at hj; exact hlt j hj
          · rw [hon]
            intro k j hb hj
            by_cases hki : k = i
            · simp [hki]
            · simp only [if_neg hki]
              by_cases hji : j = i
              · subst hji; exact hr k hb
              · simp only [if_neg hji] at hj; exact hc k j hb hj
          · have := filter_lt (f := fun j => !isOn listed j) (f' := fun j => !isOn (listed.setIfInBounds i true) j) (l := List.range p) (fun x _ hx => by
              rw [hon] at hx
              by_cases hxi : x = i
              · simp [hxi] at hx
              · simpa [hxi] using hx) ⟨i, by simp [hip], by simp [hoff], by rw [hon]; simp⟩
            omega
          · rw [hcur, hon]
            exact hh.putF hs hc hlt hip ho hoff hv hu st
        let ρ : Hp → St := fun c => ⟨((Ab.looks ops o).filterMap fun s => (lk (stAt σ ((((ops.toList.take p).map (·.dst)).zip ws).take i)).slots s).map fun v => (s, v)), c, σ.nt⟩
        have lkρ : ∀ (l : List Nat) (f : Nat → Option AV) (s : Nat) (v : AV), lk (l.filterMap fun s => (f s).map fun v => (s, v)) s = some v → s ∈ l ∧ f s = some v := by
          intro l f
          induction l with
          | nil => intro s v e; cases e
          | cons x l ih =>
            intro s v e
            rw [List.filterMap_cons] at e
            cases q : f x with
            | none => simp only [q, Option.map_none] at e; obtain ⟨h1, h2⟩ := ih s v e; exact ⟨by simp [h1], h2⟩
            | some y =>
              simp only [q, Option.map_some, lk] at e
              split at e
              · rename_i hx; cases e; subst hx; exact ⟨by simp, q⟩
              · obtain ⟨h1, h2⟩ := ih s v e; exact ⟨by simp [h1], h2⟩
        have lkρ2 : ∀ (l : List Nat) (f : Nat → Option AV) (s : Nat), s ∈ l → lk (l.filterMap fun s => (f s).map fun v => (s, v)) s = f s := by
          intro l f
          induction l with
          | nil => intro s h; cases h
          | cons x l ih =>
            intro s hmem
            rw [List.filterMap_cons]
            by_cases hx : x = s
            · subst hx
              cases q : f x with
              | none =>
                simp only [Option.map_none]
                by_cases hm : x ∈ l
                · rw [ih x hm, q]
                · cases q2 : lk (l.filterMap fun s => (f s).map fun v => (s, v)) x with
                  | none => rfl
                  | some y => exact absurd (lkρ l f x y q2).1 hm
              | some y => simp [lk]
            · have hm : s ∈ l := by simp only [List.mem_cons] at hmem; rcases hmem with h1 | h1; exact absurd h1.symm hx; exact h1
              cases q : f x with
              | none => simp only [Option.map_none]; exact ih s hm
              | some y => simp only [Option.map_some, lk, if_neg hx]; exact ih s hm
        have fr : FRel g0 h0 w0 (ρ (hpF listed f σ.hp hF)) g w a := ⟨hh.st, fun s v e => by
          obtain ⟨h1, h2⟩ := lkρ _ _ s v e
          exact look s h1 v h2, hh.nt, hh.defers⟩
        have evs : ∀ c : Hp, ∀ x ∈ o.op.operands, ev ({ stAt σ ((((ops.toList.take p).map (·.dst)).zip ws).take i) with hp := c } : St) x = ev (ρ c) x := fun c x hx => by
          cases x with
          | tmp s =>
            have hmem : s ∈ Ab.looks ops o := by
              simp only [Ab.looks, List.mem_append, List.mem_filterMap]
              exact .inl ⟨.tmp s, by simpa using hx, rfl⟩
            exact (lkρ2 _ (fun s => lk (stAt σ ((((ops.toList.take p).map (·.dst)).zip ws).take i)).slots s) s hmem).symm
          | const c => rfl
          | «global» q => rfl
          | func f => rfl
        have same : ({ stAt σ ((((ops.toList.take p).map (·.dst)).zip ws).take i) with hp := σ.hp } : St) = stAt σ ((((ops.toList.take p).map (·.dst)).zip ws).take i) := by
          conv => rhs; rw [show stAt σ ((((ops.toList.take p).map (·.dst)).zip ws).take i) = { stAt σ ((((ops.toList.take p).map (·.dst)).zip ws).take i) with hp := (stAt σ ((((ops.toList.take p).map (·.dst)).zip ws).take i)).hp } from rfl]
          rw [(stAt_hp _ σ).1]
        unfold wpOp
        simp only [ho]
        by_cases hif : i = f
        · subst hif
          have hcur : hpF listed i σ.hp hF = σ.hp := by simp [hpF, hoff]
          have hcur' : hpF (listed.setIfInBounds i true) i σ.hp hF = hF := by simp [hpF, hon]
          cases b with
          | false => exact absurd rfl (hskip rfl).2
          | true =>
            rw [if_pos hwant]
            refine .inl ?_
            have e1 := (hval rfl).2.1 rfl
            rw [← same] at e1
            rw [hcur] at fr nextc
            exact effC_sound fr (effC_congr (σ' := ρ σ.hp) (by exact rfl) (evs σ.hp) e1) fun u g' w' hu st => nextc hF u g' w' hcur' hu st
        · have hcur' : hpF (listed.setIfInBounds i true) f σ.hp hF = hpF listed f σ.hp hF := by simp [hpF, hon, Ne.symm hif]
          cases b with
          | true =>
            rw [if_pos hwant]
            refine .inl ?_
            have e1 : valOp P { stAt σ ((((ops.toList.take p).map (·.dst)).zip ws).take i) with hp := hpF listed f σ.hp hF } o v := by
              have hv := hval rfl
              cases q : isOn listed f with
              | true =>
                have : hpF listed f σ.hp hF = hF := by simp [hpF, q]
                rw [this]
                rcases Nat.lt_trichotomy i f with h1 | h1 | h1
                · exact (hv.1 h1).2
                · exact absurd h1 hif
                · exact hv.2.2 h1
              | false =>
                have : hpF listed f σ.hp hF = σ.hp := by simp [hpF, q]
                rw [this, same]
                rcases Nat.lt_trichotomy i f with h1 | h1 | h1
                · exact (hv.1 h1).1
                · exact absurd h1 hif
                · have := hr f (hfb i h1 hip); rw [q] at this; cases this
            exact valOp_sound fr (valOp_congr (σ' := ρ (hpF listed f σ.hp hF)) (by exact rfl) (evs _) e1) fun u g' w' hu st => nextc _ u g' w' hcur' hu st
          | false =>
            rw [if_neg (by rw [hwant]; simp)]
            have := (hskip rfl).1
            subst this
            exact nextc _ undef g w hcur' (Rep.tup (cs := #[]) (as := []) rfl (by simp)) (.refl hh.st.hp)

theorem put_set (σ : St) (h : Hp) (d : Option Tmp) (w : AV) : ({ σ with hp := h } : St).put d w = { σ.put d w with hp := h } := by
  cases d with
  | none => rfl
  | some d => simp only [St.put]; split <;> rfl
theorem stAt_app : ∀ (l m : List (Option Tmp × AV)) (σ : St), stAt σ (l ++ m) = stAt (stAt σ l) m
  | [], _, _ => rfl
  | (d, w) :: l, m, σ => stAt_app l m (σ.put d w)
theorem hp_same (σ : St) {h : Hp} (e : σ.hp = h) : ({ σ with hp := h } : St) = σ := by subst e; rfl

def CallF (P : Program) (ops : Array Oper) (f : FuncId) (args : List AV) (d : Option Tmp) (h : Hp) (rest : List Oper) (K : St → Prop) (σ1 : St) : Prop :=
  Callable P f ∧ ∃ r hF, hF.boxes = h.boxes ∧ SCall P f args h (fun r' h' => r' = r ∧ h' = hF) ∧ qwl P ops rest K (({ σ1 with hp := hF } : St).put d r)
theorem CallF_intro {f : FuncId} {args : List AV} {d : Option Tmp} {h : Hp} {rest : List Oper} {K : St → Prop} {σ1 : St} {r : AV} {hF : Hp} (hc : Callable P f) (hb : hF.boxes = h.boxes) (hs : SCall P f args h fun r' h' => r' = r ∧ h' = hF)
    (k : qwl P ops rest K (({ σ1 with hp := hF } : St).put d r)) : CallF P ops f args d h rest K σ1 := ⟨hc, r, hF, hb, hs, k⟩
def callF (P : Program) (ops : Array Oper) (d : Option Tmp) (x : Option ((FuncId × List AV × List AV) × List AV)) (h : Hp) (rest : List Oper) (K : St → Prop) (σ1 : St) : Prop :=
  match x with
  | some (q, as) => CallF P ops q.1 (q.2.1 ++ as ++ q.2.2) d h rest K σ1
  | none => False
theorem callF_some {f : FuncId} {a as b : List AV} {d : Option Tmp} {h : Hp} {rest : List Oper} {K : St → Prop} {σ1 : St} : callF P ops d (some ((f, a, b), as)) h rest K σ1 = CallF P ops f (a ++ as ++ b) d h rest K σ1 := rfl
/-- The operation that changes the heap, and those behind it. -/
def effK (P : Program) (ops : Array Oper) (o : Oper) (h : Hp) (rest : List Oper) (K : St → Prop) (σ1 : St) : Prop :=
  match o.op with
  | .call ⟨.value f, args, _⟩ => callF P ops o.dst (pairO ((ev σ1 f).bind fnOf) (evL σ1 args.toList)) h rest K σ1
  | _ => False
/-- The look over it. -/
def statF (ops : Array Oper) (f p : Nat) : Bool :=
  let B := befs ops.toList []
  decide (f < p) && ((List.range p).all fun i => decide (i ≤ f) || (B.getD i []).contains f) && (List.range (f + 1)).all fun i => let o := ops.getD i default; o.guard.isNone && (decide (i = f) || calm o)

theorem guardBit_hp {σ : St} {h : Hp} {j : Nat} {want : Bool} : guardBit ops ({ σ with hp := h } : St) j want = guardBit ops σ j want := rfl

/-- A REGION: the first p operations change nothing but for the call at f; the others in each order of the tree. Behind it the walk goes on from one state. -/
theorem aw_drawF {Q : Exit → St → Prop} {σ' : St} {n : Nat} (N : Nat) {id : Nat} {l : List Oper} (p f : Nat) (t : OT) {o : Oper} (hof : l[f]? = some o) (hn : σ.nt = n) (hB : statB l.toArray n p = true) (hT : statT l.toArray p = true) (hSF : statF l.toArray f p = true) (hm : P.follows .mixedOrders = true)
    (hok : okT l.toArray t (Array.ofFn fun j : Fin l.length => decide (j.val < p)) none = true) (hd : decide (p + t.depth ≤ l.length) = true)
    (h : qwl P l.toArray (l.take f) (effK P l.toArray o σ.hp ((l.take p).drop (f + 1)) fun σ1 => σ1.hp.nx ≤ N ∧ walkT P l.toArray t (fun σ2 => St.cp N σ2 σ') σ1) ⟨σ.slots, ⟨σ.hp.boxes, [], σ.hp.nx⟩, σ.nt⟩) (k : Q .normal σ') : Aw P (.region id l.toArray true) Q σ := by
  intro g0 h0 w0 g w a r
  have hB' : statB l.toArray σ.nt p = true := by rw [hn]; exact hB
  have hs := Stat.of_B hB'
  have getD : ∀ j o, l[j]? = some o → l.toArray.getD j default = o := fun j o e => by simp [Array.getD_eq_getD_getElem?, e]
  unfold statF at hSF
  simp only [Bool.and_eq_true, decide_eq_true_eq, List.all_eq_true, List.mem_range, Bool.or_eq_true, List.contains_eq_mem] at hSF
  obtain ⟨⟨hfp, hbef⟩, hcalm⟩ := hSF
  have hfb : ∀ i, f < i → i < p → Bef l.toArray f i := fun i h1 h2 => by
    rcases hbef i h2 with h3 | h3
    · omega
    · exact befs_sound (ops := l.toArray) l.toArray.toList [] (by simp) (by simp) (by simp) i f (by simpa using h3)
  have hgf : o.guard = none := by
    have := (hcalm f (Nat.lt_succ_self f)).1
    rw [getD f o hof] at this
    simpa using this
  have hlp : p ≤ l.length := by have := hs.le; simpa using this
  have hfl : f < l.length := by omega
  obtain ⟨ws1, t1, h1⟩ := qwl_trace _ _ h
  have hlen1 : (l.take f).length = f := by rw [List.length_take]; omega
  have hL : l.take p = l.take f ++ o :: (l.take p).drop (f + 1) := by
    have e1 : (l.take p).take f = l.take f := by rw [List.take_take]; congr 1; omega
    have e2 : (l.take p)[f]? = some o := by rw [List.getElem?_take, if_pos hfp]; exact hof
    obtain ⟨hfl', e3⟩ := List.getElem?_eq_some_iff.1 e2
    rw [← e1, ← e3, ← List.drop_eq_getElem_cons hfl', List.take_append_drop]
  generalize (l.take p).drop (f + 1) = l2 at hL h1
  generalize hl1 : l.take f = l1 at hL t1 h1 hlen1
  have hw1 : ws1.length = f := by rw [t1.len, hlen1]
  generalize hi1 : (l1.map (·.dst)).zip ws1 = it1 at h1 t1
  have hit1 : it1.length = f := by rw [← hi1]; simp [hlen1, hw1]
  unfold effK at h1
  split at h1
  rotate_left
  · exact h1.elim
  rename_i fo args tys hop
  cases hx : pairO ((ev (stAt ⟨σ.slots, ⟨σ.hp.boxes, [], σ.hp.nx⟩, σ.nt⟩ it1) fo).bind fnOf) (evL (stAt ⟨σ.slots, ⟨σ.hp.boxes, [], σ.hp.nx⟩, σ.nt⟩ it1) args.toList) with
  | none => rw [hx] at h1; exact h1.elim
  | some x =>
  rw [hx] at h1
  obtain ⟨q, as⟩ := x
  obtain ⟨hcb, rv, hF, hbx, hsc, h2⟩ := h1
  obtain ⟨ws2, t2, hK⟩ := qwl_trace _ _ h2
  have hset : ∀ (m : List (Option Tmp × AV)) (hp : Hp), stAt (⟨σ.slots, hp, σ.nt⟩ : St) m = { stAt σ m with hp := hp } := fun m hp => stAt_set m σ hp
  have hst2 : ({ stAt (⟨σ.slots, ⟨σ.hp.boxes, [], σ.hp.nx⟩, σ.nt⟩ : St) it1 with hp := hF } : St).put o.dst rv = { (stAt σ it1).put o.dst rv with hp := hF } := by rw [hset, ← put_set]
  rw [hst2] at t2 hK
  rw [hset] at hx
  have hitems : ((l.take p).map (·.dst)).zip (ws1 ++ rv :: ws2) = it1 ++ (o.dst, rv) :: ((l2.map (·.dst)).zip ws2) := by
    rw [hL, List.map_append, List.map_cons, List.zip_append (by simp [hlen1, hw1]), List.zip_cons_cons, hi1]
  have tF : TraceF P l.toArray f hF (l.toArray.toList.take p) σ (ws1 ++ rv :: ws2) := by
    show TraceF P l.toArray f hF (l.take p) σ _
    refine ⟨by rw [hL]; simp [hlen1, hw1, t2.len], fun i o' v e1 e2 => ?_⟩
    rw [hitems]
    rw [hL] at e1
    rcases Nat.lt_trichotomy i f with hi | hi | hi
    · rw [List.getElem?_append_left (by omega)] at e1 e2
      rw [List.take_append_of_le_length (by omega)]
      obtain ⟨b, hg, hv, hk⟩ := t1.step i o' v e1 e2
      rw [hi1] at hv hg
      have hol : l[i]? = some o' := by rw [← hl1, List.getElem?_take, if_pos hi] at e1; exact e1
      have hc := hcalm i (by omega)
      rw [getD i o' hol] at hc
      have hgn : o'.guard = none := by simpa using hc.1
      have hcl : calm o' = true := by rcases hc.2 with h | h; omega; exact h
      have hb : b = true := by
        rcases hg with ⟨_, hb⟩ | ⟨j, want, c, e, _⟩
        · exact hb
        · rw [hgn] at e; cases e
      subst hb
      have hv := hv rfl
      rw [hset] at hv
      refine ⟨true, .inl ⟨hgn, rfl⟩, fun _ => ⟨fun _ => ⟨?_, ?_⟩, fun h => by omega, fun h => by omega⟩, fun h => by cases h⟩
      · have := calm_mono (L := σ.hp.toks) (m := σ.hp.nx) hcl hv
        rwa [show (⟨σ.hp.boxes, σ.hp.toks, σ.hp.nx⟩ : Hp) = σ.hp from rfl, hp_same _ (stAt_hp _ σ).1] at this
      · have := calm_mono (L := hF.toks) (m := hF.nx) hcl hv
        rwa [show (⟨σ.hp.boxes, hF.toks, hF.nx⟩ : Hp) = hF from by rw [← hbx]] at this
    · subst hi
      rw [List.getElem?_append_right (by omega), hlen1, Nat.sub_self] at e1
      rw [List.getElem?_append_right (by omega), hw1, Nat.sub_self] at e2
      simp only [List.getElem?_cons_zero, Option.some.injEq] at e1 e2
      subst e1; subst e2
      rw [List.take_append_of_le_length (by omega), List.take_of_length_le (by omega)]
      refine ⟨true, .inl ⟨hgf, rfl⟩, fun _ => ⟨fun h => by omega, fun _ => ?_, fun h => by omega⟩, fun h => by cases h⟩
      unfold effC
      rw [hop]
      refine ⟨q, as, ?_, hcb, ?_⟩
      · rw [← hx]
        have a1 := ev_hp (σ := stAt σ it1) (h := ⟨σ.hp.boxes, [], σ.hp.nx⟩) fo
        have a2 := evL_hp (σ := stAt σ it1) (h := ⟨σ.hp.boxes, [], σ.hp.nx⟩) args.toList
        show pairO ((ev (stAt σ it1) fo).bind fnOf) _ = pairO ((ev { stAt σ it1 with hp := ⟨σ.hp.boxes, [], σ.hp.nx⟩ } fo).bind fnOf) (evL { stAt σ it1 with hp := ⟨σ.hp.boxes, [], σ.hp.nx⟩ } args.toList)
        rw [a1, a2]
      · rw [(stAt_hp _ σ).1]; exact hsc
    · obtain ⟨j, rfl⟩ : ∃ j, i = f + 1 + j := ⟨i - f - 1, by omega⟩
      rw [List.getElem?_append_right (by omega), hlen1, show f + 1 + j - f = j + 1 by omega, List.getElem?_cons_succ] at e1
      rw [List.getElem?_append_right (by omega), hw1, show f + 1 + j - f = j + 1 by omega, List.getElem?_cons_succ] at e2
      obtain ⟨b, hg, hv, hk⟩ := t2.step j o' v e1 e2
      have hst : stAt σ ((it1 ++ (o.dst, rv) :: (l2.map (·.dst)).zip ws2).take (f + 1 + j)) = stAt ((stAt σ it1).put o.dst rv) (((l2.map (·.dst)).zip ws2).take j) := by
        rw [List.take_append, List.take_of_length_le (by omega), hit1, show f + 1 + j - f = j + 1 by omega, List.take_succ_cons, stAt_app]; rfl
      rw [hst]
      rw [stAt_set] at hv
      refine ⟨b, ?_, fun hb => ⟨fun h => by omega, fun h => by omega, fun _ => hv hb⟩, fun hb => ⟨hk hb, by omega⟩⟩
      rcases hg with hg | ⟨j', want, c, e3, e4, e5⟩
      · exact .inl hg
      · rw [stAt_set, guardBit_hp] at e4
        exact .inr ⟨j', want, c, e3, e4, e5⟩
  have hKs : stAt ({ (stAt σ it1).put o.dst rv with hp := hF } : St) ((l2.map (·.dst)).zip ws2) = { stAt σ (((l.toArray.toList.take p).map (·.dst)).zip (ws1 ++ rv :: ws2)) with hp := hF } := by
    show _ = { stAt σ (((l.take p).map (·.dst)).zip (ws1 ++ rv :: ws2)) with hp := hF }
    rw [hitems, stAt_set, stAt_app]; rfl
  rw [hKs] at hK
  obtain ⟨hNN, hW⟩ := hK
  refine wp_region_any hm ?_
  have off : ∀ j, isOn (Array.replicate l.toArray.size false) j = false := fun j => by
    unfold isOn
    simp only [Array.getD_eq_getD_getElem?, Array.getElem?_replicate]
    split <;> rfl
  have hd' : p + t.depth ≤ l.length := by simpa using hd
  have hcur : hpF (Array.replicate l.toArray.size false) f σ.hp hF = σ.hp := by unfold hpF; rw [if_neg (by rw [off]; exact Bool.false_ne_true)]
  refine quiet_anyF (rest := t.depth) hs hfp hfb (fun i j hi hj hn => statT_sound hT hi hj hn) tF ?_ p _ _ g _ a (by simp) (fun j hj => by rw [off] at hj; cases hj) (fun i j _ hj => by rw [off] at hj; cases hj) (by
      refine Nat.le_trans (List.length_filter_le _ _) ?_
      simp) (by simpa using hd') (by rw [hcur]; exact ⟨⟨r.st.hp.drew, r.st.ext, r.st.keeps.trans (Keeps.drew (Live g σ.hp) w) r.st.live, r.st.live, r.st.memo⟩, r.nt, r.defers, fun j o v s hL => (by rw [off] at hL; cases hL), fun s v _ e => r.slots s v e⟩)
  intro g w a listed fuel hsz hon hf fr
  have hg : g0.nx ≤ N := by
    have h1 : g0.nx ≤ g.nx := fr.st.ext.nx
    rw [fr.st.hp.nx] at h1; exact Nat.le_trans h1 hNN
  have hl : listed = Array.ofFn fun j : Fin l.length => decide (j.val < p) := by
    apply Array.ext
    · simpa using hsz
    · intro j h1 h2
      have := hon j
      unfold isOn at this
      simp only [Array.getD_eq_getD_getElem?, Array.getElem?_eq_getElem h1, Option.getD_some] at this
      simp [this]
  subst hl
  have base := tail_any (Q := fun e σ1 => match e with | .normal => St.cp N σ1 σ' | _ => False) (g0 := g0) (h0 := h0) (w0 := w0) t.depth t _ _ g w a fuel (Nat.le_refl _) hok hW fr hf
  have mono : ∀ (n : Nat) (listed : Array Bool) (a : Act) (w : World), wpAny P .any l.toArray (Post g0 h0 w0 fun e σ1 => match e with | .normal => St.cp N σ1 σ' | _ => False) n listed a w → wpAny P .any l.toArray (Post g0 h0 w0 Q) n listed a w := by
    have post : ∀ e a w, Post g0 h0 w0 (fun e σ1 => match e with | .normal => St.cp N σ1 σ' | _ => False) e a w → Post g0 h0 w0 Q e a w := fun e a w ⟨σ2, g2, k1, k2⟩ => by
      cases e with
      | normal => obtain ⟨g3, k3⟩ := k1 g0 h0 w0 g2 w a hg k2; exact ⟨σ', g3, k, k3⟩
      | _ => exact k1.elim
    intro n
    induction n with
    | zero => intro listed a w h; exact ⟨h.1, post _ _ _ h.2⟩
    | succ n ih =>
      intro listed a w h
      refine ⟨fun q => post _ _ _ (h.1 q), fun i hi => ?_⟩
      have := h.2 i hi
      unfold wpOp at this ⊢
      split
      · rename_i ho; rw [ho] at this; exact ih _ _ _ this
      · rename_i o ho
        rw [ho] at this
        simp only at this
        split
        · rename_i hw
          rw [if_pos hw] at this
          rcases this with h1 | ⟨h1, a', w', h2⟩
          · exact .inl (wp_op_mono (fun a w => ih _ a w) post h1)
          · exact .inr ⟨h1, a', w', post _ _ _ h2⟩
        · rename_i hw; rw [if_neg hw] at this; exact ih _ _ _ this
  exact mono _ _ _ _ base
end
end Go.Ab
