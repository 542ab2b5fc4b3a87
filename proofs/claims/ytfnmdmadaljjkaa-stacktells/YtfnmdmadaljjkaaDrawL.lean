/- Regions that draw their order, and of which the effect is a new variable with its first value: whatever the order, it comes to the same. Conditions: those that each theorem names. -/
import Derived.Test.YtfnmdmadaljjkaaDrawA
set_option linter.unusedVariables false
set_option linter.unusedSimpArgs false
namespace Go.Ab

theorem Pend.set {g : Gh} {h : Hp} {w : World} {b : Nat} {vs : Array Value} {ty : TypeId} {g0 : Gh} {h0 : Hp} {w0 : World} (s : Step1 g0 h0 w0 g h w) (hb0 : w0.heap.size ≤ b) (pd : Pend g h w b vs ty) (vs' : Array Value) :
    Step1 g0 h0 w0 g h (w.setRow b vs') ∧ Pend g h (w.setRow b vs') b vs' ty := by
  have r := s.hp
  have other : ∀ k x, w.heap[k]? = some x → k ≠ b → (w.setRow b vs').heap[k]? = some x := fun k x hk hne => (setRow_other w b k vs' hne).trans hk
  refine ⟨⟨⟨r.nx, fun b' o v e' => ?_, fun i c e' => ?_, fun t k e' => ?_, r.bxbx, r.tktk, r.bxtk, r.fresh, r.cchUp (.refl g) rfl (fun b' es k e' => other b' _ e' (fun q => by subst q; rw [pd.row] at e'; cases e')), r.celUp rfl (fun b' vs0 e0 q => (Classical.em (b' = b)).elim (fun q' => ⟨vs', ty, by rw [q']; exact setRow_heap w b vs vs' ty _ pd.row⟩) (fun q' => ⟨vs0, e0, other b' _ q q'⟩))⟩, s.ext, s.keeps.trans (Keeps.setRow (F := fun x => x = b) w _ rfl) (fun x q => .inr (by rw [q]; exact hb0)), s.live, s.memo⟩, setRow_heap w b vs vs' ty _ pd.row, pd.dead, pd.mem⟩
  · obtain ⟨f1, f2⟩ := r.mem b' o v e'
    have hne : b' ≠ b := fun q => by subst q; rw [pd.mem o] at e'; cases e'
    exact ⟨by rw [World.cell?_of_block (w := w) (setRow_other w b b' vs' hne)]; exact f1, f2⟩
  · obtain ⟨b', vs0, ty0, f1, f2, f3⟩ := r.box i c e'
    exact ⟨b', vs0, ty0, f1, other b' _ f2 (fun q => pd.dead (.inl ⟨i, c, e', q ▸ f1⟩)), f3⟩
  · obtain ⟨b', c, vs0, ty0, f1, f2, f3⟩ := r.tok t k e'
    exact ⟨b', c, vs0, ty0, f1, other b' _ f2 (fun q => pd.dead (.inr (.inl ⟨t, k, c, _, e', q ▸ f1⟩))), f3⟩

/-- An operation as the walk takes it: the variable is made where its first value is stored. -/
def lop (o : Oper) : Oper :=
  match o.op with
  | .alloc _ => { o with dst := none, op := .move (.const (.bool false)) }
  | .store _ (.tmp d) y => { o with dst := some d, op := .move y }
  | _ => o
theorem lop_after (o : Oper) : (lop o).after = o.after := by unfold lop; split <;> rfl
theorem lop_guard (o : Oper) : (lop o).guard = o.guard := by unfold lop; split <;> rfl

/-- Behind it: the variable with its first value. -/
def afterL (d n N : Nat) (Q : St → Prop) (σ : St) : Prop :=
  σ.hp.nx + 1 ≤ N ∧ match (lk σ.slots d).bind AV.cells with
  | some cs => cs.length = n ∧ Q ({ σ with hp := { σ.hp with boxes := σ.hp.boxes ++ [(σ.hp.nx, cs)], nx := σ.hp.nx + 1 } }.put (some d) (.ptr σ.hp.nx 0))
  | none => False
theorem Xbs {d n N : Nat} {Q : St → Prop} {sl : List (Nat × AV)} {bx : List (Nat × List AV)} {tk : List (Nat × Tk)} {nx nt : Nat} :
    afterL d n N Q ⟨sl, ⟨bx, tk, nx⟩, nt⟩ = (nx + 1 ≤ N ∧ match (lk sl d).bind AV.cells with
  | some cs => cs.length = n ∧ Q ((⟨sl, ⟨bx ++ [(nx, cs)], tk, nx + 1⟩, nt⟩ : St).put (some d) (.ptr nx 0))
  | none => False) := rfl

def statL (ops : Array Oper) (nt f s d : Nat) (t : TypeId) : Bool :=
  (match ops[f]? with
  | some ⟨some d', .alloc t', _, _, after, none⟩ => t == t' && d == d' && decide (d < nt)
  | _ => false) &&
  (match ops[s]? with
  | some ⟨none, .store t' (.tmp d') _, _, _, after, none⟩ => t == t' && d == d' && after.toList.any fun e => Region.binds .any e && e.on == f
  | _ => false) && (f != s) &&
  (List.range ops.size).all fun i => let o := ops.getD i default; (i == f || i == s || (match o.op with | .alloc _ => false | .store _ _ _ => false | _ => true) && !(o.dst == some d)) && !(looks (ops.map lop) (lop o)).contains d

section
variable {P : Program} {ops : Array Oper} {σ : St}
structure StatL (ops : Array Oper) (nt f s d : Nat) (t : TypeId) : Prop where
  al : ∃ o, ops[f]? = some o ∧ o.dst = some d ∧ o.op = .alloc t ∧ o.guard = none
  st : ∃ o y, ops[s]? = some o ∧ o.dst = none ∧ o.op = .store t (.tmp d) y ∧ o.guard = none ∧ ∃ e ∈ o.after.toList, Region.binds .any e = true ∧ e.on = f
  ne : f ≠ s
  lt : d < nt
  other : ∀ (i : Nat) (o : Oper), i ≠ f → i ≠ s → ops[i]? = some o → lop o = o ∧ o.dst ≠ some d
  look : ∀ (i : Nat) (o : Oper), ops[i]? = some o → d ∉ looks (ops.map lop) (lop o)
theorem StatL.of {nt f s d : Nat} {t : TypeId} (h : statL ops nt f s d t = true) : StatL ops nt f s d t := by
  unfold statL at h
  simp only [Bool.and_eq_true, bne_iff_ne, ne_eq] at h
  obtain ⟨⟨⟨h1, h2⟩, h3⟩, h4⟩ := h
  have getD : ∀ j o, ops[j]? = some o → ops.getD j default = o := fun j o e => by rw [Array.getD_eq_getD_getElem?, e]; rfl
  simp only [List.all_eq_true, List.mem_range, Bool.and_eq_true, Bool.or_eq_true, beq_iff_eq, Bool.not_eq_true'] at h4
  split at h1
  · rename_i d' t' ty ps after ho
    simp only [Bool.and_eq_true, beq_iff_eq, decide_eq_true_eq] at h1
    obtain ⟨⟨rfl, rfl⟩, hlt⟩ := h1
    split at h2
    · rename_i t'' d'' y ty' ps' after' ho'
      simp only [Bool.and_eq_true, beq_iff_eq, List.any_eq_true] at h2
      obtain ⟨⟨rfl, rfl⟩, e, he, hb, hon⟩ := h2
      refine ⟨⟨_, ho, rfl, rfl, rfl⟩, ⟨_, y, ho', rfl, rfl, rfl, e, he, hb, hon⟩, h3, hlt, fun i o hf hs hi => ?_, fun i o hi => ?_⟩
      · have hsz := (Array.getElem?_eq_some_iff.1 hi).1
        have := (h4 i hsz).1
        rw [getD i o hi] at this
        rcases this with (q | q) | q
        · exact absurd q hf
        · exact absurd q hs
        · obtain ⟨q1, q2⟩ := q
          refine ⟨?_, fun e => by rw [e] at q2; simp at q2⟩
          unfold lop
          split at q1
          · cases q1
          · cases q1
          · rename_i n1 n2
            split
            · rename_i t ho; exact (n1 _ ho).elim
            · rename_i t d y ho; exact (n2 _ _ _ ho).elim
            · rfl
      · have hsz := (Array.getElem?_eq_some_iff.1 hi).1
        have := (h4 i hsz).2
        rw [getD i o hi] at this
        intro q; simp [q] at this
    · cases h2
  · cases h1

theorem map_get {i : Nat} {o1 : Oper} (h : (ops.map lop)[i]? = some o1) : ∃ o, ops[i]? = some o ∧ lop o = o1 := by
  rw [Array.getElem?_map, Option.map_eq_some_iff] at h; exact h
theorem get_map {i : Nat} {o : Oper} (h : ops[i]? = some o) : (ops.map lop)[i]? = some (lop o) := by
  rw [Array.getElem?_map, h]; rfl

variable {g0 : Gh} {h0 : Hp} {w0 : World}
/-- What is known of the variable. -/
structure LetI (σ : St) (g0 : Gh) (w0 : World) (f s d : Nat) (t0 : TypeId) (n : Nat) (ws : List AV) (L : Nat → Bool) (g : Gh) (w : World) (a : Act) : Prop where
  made : L f = true → ∃ b row, Pend g σ.hp w b row t0 ∧ w0.heap.size ≤ b ∧ a.tmps[d]? = some (.pointer (some ⟨b, 0, none⟩)) ∧ row.size = n ∧
    (L s = true → ∃ v cs, ws[s]? = some v ∧ v.cells = some cs ∧ RepL g row.toList cs ∧ ∀ x ∈ row.toList, x.oneCell' = true)
  late : L s = true → L f = true

theorem quiet_let {ws : List AV} {Q : Exit → Act → World → Prop} {rest f s d N : Nat} {t0 : TypeId} {ti : TI} {z : List AV} (hti : tyOf P t0 = some ti) (hz : ti.zero = some z) (hzl : z.length = ti.size)
    (hs : Stat (ops.map lop) σ.nt ops.size) (hA : StatL ops σ.nt f s d t0) (hd : lk σ.slots d = none) (t : Trace P (ops.map lop) (ops.map lop).toList σ ws)
    (hcs : ∀ v, ws[s]? = some v → ∃ cs, v.cells = some cs ∧ cs.length = ti.size)
    (fin : ∀ g w a v cs, ws[s]? = some v → v.cells = some cs →
      FRel g0 h0 w0 ({ stAt σ ((((ops.map lop).toList).map fun o : Oper => o.dst).zip ws) with hp := { σ.hp with boxes := σ.hp.boxes ++ [(σ.hp.nx, cs)], nx := σ.hp.nx + 1 } }.put (some d) (.ptr σ.hp.nx 0)) g w a → Q .normal a w) :
    ∀ (m : Nat) (listed : Array Bool) (fuel : Nat) (g : Gh) (w : World) (a a1 : Act), listed.size = ops.size → Closed (ops.map lop) (isOn listed) →
      ((List.range ops.size).filter fun j => !isOn listed j).length ≤ m → m ≤ fuel → Half (ops.map lop) ops.size σ ws g0 h0 w0 (isOn listed) g w a1 →
      LetI σ g0 w0 f s d t0 ti.size ws (isOn listed) g w a → a.tmps.size = a1.tmps.size → a.defers = [] → (∀ i, i ≠ d → a.tmps[i]? = a1.tmps[i]?) → wpAny P .any ops Q fuel listed a w := by
  have hsz1 : (ops.map lop).size = ops.size := by simp
  have htk : (ops.map lop).toList.take ops.size = (ops.map lop).toList := List.take_of_length_le (by simp)
  have tk : Trace P (ops.map lop) ((ops.map lop).toList.take ops.size) σ ws := by rw [htk]; exact t
  have hdst : ∀ j oj, (ops.map lop)[j]? = some oj → j ≠ s → oj.dst ≠ some d := fun j oj hj hjs => by
    obtain ⟨o, ho, rfl⟩ := map_get hj
    by_cases hjf : j = f
    · subst hjf
      obtain ⟨o', ho', h1, h2, h3⟩ := hA.al
      rw [ho] at ho'; cases ho'
      simp [lop, h2]
    · obtain ⟨h1, h2⟩ := hA.other j o hjf hjs ho
      rw [h1]; exact h2
  intro m
  induction m with
  | zero =>
    intro listed fuel g w a a1 hsz hc hm hf hh hl hts hdf hag
    have hall : ∀ j, j < ops.size → isOn listed j = true := fun j hj => by
      cases q : isOn listed j with
      | true => rfl
      | false =>
        have : j ∈ (List.range ops.size).filter fun j => !isOn listed j := by simp [hj, q]
        rw [List.eq_nil_of_length_eq_zero (Nat.le_zero.1 hm)] at this
        cases this
    have hnil : Region.ready .any ops listed = [] := by
      cases q : Region.ready .any ops listed with
      | nil => rfl
      | cons i r =>
        have hi : i ∈ Region.ready .any ops listed := by rw [q]; simp
        obtain ⟨o, ho, hoff, _⟩ := (ready_iff hsz).1 hi
        have := (Array.getElem?_eq_some_iff.1 ho).1
        rw [hall i this] at hoff; cases hoff
    obtain ⟨oS, y, hS, hSd, hSop, hSg, _⟩ := hA.st
    have hsS : s < ops.size := (Array.getElem?_eq_some_iff.1 hS).1
    obtain ⟨b, row, pd, hb0, htm, hrs, hrow⟩ := hl.made (hl.late (hall s hsS))
    obtain ⟨v, cs, k1, k2, k3, k4⟩ := hrow (hall s hsS)
    obtain ⟨st, hrep⟩ := pd.adopt hh.st hb0 cs k3 k4
    have main : Q .normal a w := by
      refine fin (g.addBox b) w a v cs k1 k2 ⟨?_, fun i u e => ?_, ?_, hdf⟩
      · rw [(put_hp _ _ _).1]; exact st
      · have hnt : (stAt σ (((ops.map lop).toList.map fun o : Oper => o.dst).zip ws)).nt = σ.nt := (stAt_hp _ σ).2
        simp only [St.put, hnt, hA.lt, if_true, lk] at e
        split at e
        · rename_i hid
          cases e; subst hid
          exact ⟨_, htm, hrep⟩
        · rename_i hid
          have main : ∃ x, a1.tmps[i]? = some x ∧ Rep g x u := by
            rcases lk_stAt (nt := σ.nt) _ σ i u rfl (fun k d w' q => by
              have q' := items_get (i := k) (m := k + 1) (by rw [List.getElem?_take, if_pos (by omega)]; exact q)
              obtain ⟨_, o1, q2, q3, _⟩ := q'
              have q2' : (ops.map lop)[k]? = some o1 := by simpa using q2
              have := (Array.getElem?_eq_some_iff.1 q2').1
              exact hs.bound k o1 d (by omega) q2' q3) e with ⟨j, h1, h2⟩ | ⟨h1, h2⟩
            · have q' := items_get (i := j) (m := j + 1) (by rw [List.getElem?_take, if_pos (by omega)]; exact h1)
              obtain ⟨_, oj, q1, q2, q3⟩ := q'
              have q1' : (ops.map lop)[j]? = some oj := by simpa using q1
              have hjp := (Array.getElem?_eq_some_iff.1 q1').1
              refine hh.wrt j oj u i (hall j (by omega)) q1' q3 q2 (fun k q hjk hLk hk hd' => ?_)
              have hk' : (ops.map lop).toList[k]? = some q := by simpa using hk
              obtain ⟨wk, hwk⟩ := t.at hk'
              have := items_of (m := k + 1) (Nat.lt_succ_self k) hk' hwk
              rw [List.getElem?_take, if_pos (by omega)] at this
              exact h2 k q.dst wk hjk this hd'
            · refine hh.old i u (fun k q hLk hk hd' => ?_) h2
              have hk' : (ops.map lop).toList[k]? = some q := by simpa using hk
              obtain ⟨wk, hwk⟩ := t.at hk'
              have := items_of (m := k + 1) (Nat.lt_succ_self k) hk' hwk
              rw [List.getElem?_take, if_pos (by omega)] at this
              exact h1 k q.dst wk this hd'
          obtain ⟨x, e1, e2⟩ := main
          exact ⟨x, by rw [hag i (fun q => hid q.symm)]; exact e1, e2.mono (Ext.addBox g b)⟩
      · rw [(put_hp _ _ _).2]; simp only [(stAt_hp _ σ).2]; rw [hts]; exact hh.nt
    cases fuel with
    | zero => exact ⟨hnil, main⟩
    | succ fuel => exact ⟨fun _ => main, fun i hi => by rw [hnil] at hi; cases hi⟩
  | succ m ih =>
    intro listed fuel g w a a1 hsz hc hm hf hh hl hts hdf hag
    by_cases hz' : ((List.range ops.size).filter fun j => !isOn listed j).length ≤ m
    · exact ih listed fuel g w a a1 hsz hc hz' (by omega) hh hl hts hdf hag
    · obtain ⟨fuel, rfl⟩ : ∃ f, fuel = f + 1 := ⟨fuel - 1, by omega⟩
      have hex : ∃ j, j < ops.size ∧ isOn listed j = false := by
        cases q : (List.range ops.size).filter fun j => !isOn listed j with
        | nil => rw [q] at hz'; simp at hz'
        | cons x l =>
          have : x ∈ (List.range ops.size).filter fun j => !isOn listed j := by rw [q]; simp
          simp only [List.mem_filter, List.mem_range, Bool.not_eq_true'] at this
          exact ⟨x, this⟩
      refine ⟨fun hnil => ?_, fun i hi => ?_⟩
      · exfalso
        have least : ∀ n, ∀ j, j ≤ n → j < ops.size → isOn listed j = false → False := by
          intro n
          induction n using Nat.strongRecOn with
          | _ n ihn =>
            intro j hjn hj hoff
            have hready : j ∈ Region.ready .any ops listed := (ready_iff hsz).2 ⟨ops[j], Array.getElem?_eq_getElem hj, hoff, fun e he hb => by
              have hb' := hs.back j _ e hj (get_map (Array.getElem?_eq_getElem hj)) (by rw [lop_after]; exact he) hb
              cases q : isOn listed e.on with
              | true => rfl
              | false => exact (ihn (e.on) (by omega) e.on (Nat.le_refl _) (by omega) q).elim⟩
            rw [hnil] at hready; cases hready
        obtain ⟨j, hj, hoff⟩ := hex
        exact least j j (Nat.le_refl _) hj hoff
      · obtain ⟨o, ho, hoff, hedges⟩ := (ready_iff hsz).1 hi
        have his : i < ops.size := (Array.getElem?_eq_some_iff.1 ho).1
        have ho1 := get_map ho
        have hr := bef_on hc ho1 (fun e he hb => hedges e (by rw [lop_after] at he; exact he) hb)
        have hon : isOn (listed.setIfInBounds i true) = fun j => if j = i then true else isOn listed j := funext (isOn_set (by omega))
        have hc' : Closed (ops.map lop) (isOn (listed.setIfInBounds i true)) := by
          rw [hon]
          intro k j hb hj
          by_cases hki : k = i
          · simp [hki]
          · simp only [if_neg hki]
            by_cases hji : j = i
            · subst hji; exact hr k hb
            · simp only [if_neg hji] at hj; exact hc k j hb hj
        have hm' : ((List.range ops.size).filter fun j => !isOn (listed.setIfInBounds i true) j).length ≤ m := by
          have := filter_lt (f := fun j => !isOn listed j) (f' := fun j => !isOn (listed.setIfInBounds i true) j) (l := List.range ops.size) (fun x _ hx => by
            rw [hon] at hx
            by_cases hxi : x = i
            · simp [hxi] at hx
            · simpa [hxi] using hx) ⟨i, by simp [his], by simp [hoff], by rw [hon]; simp⟩
          omega
        have hltL : ∀ j, isOn listed j = true → j < ops.size := fun j hj => by
          rcases Nat.lt_or_ge j ops.size with q | q
          · exact q
          · unfold isOn at hj
            rw [Array.getD_eq_getD_getElem?, Array.getElem?_eq_none (by omega)] at hj
            cases hj
        have look : ∀ r ∈ Ab.looks (ops.map lop) (lop o), ∀ v, lk (stAt σ ((((((ops.map lop).toList.take ops.size)).map (·.dst)).zip ws).take i)).slots r = some v → ∃ u, a.tmps[r]? = some u ∧ Rep g u v := fun r hr' v e => by
          obtain ⟨u, e1, e2⟩ := hh.looks hs tk hc hltL his ho1 hoff hr hr' e
          exact ⟨u, by rw [hag r (fun q => hA.look i o ho (q ▸ hr'))]; exact e1, e2⟩
        obtain ⟨v, hv⟩ := tk.at (get_take his ho1)
        obtain ⟨b, hguard, hval, hskip⟩ := tk.step i (lop o) v (get_take his ho1) hv
        -- what is read is as in the walk
        let ρ : St := ⟨((Ab.looks (ops.map lop) (lop o)).filterMap fun r => (lk (stAt σ ((((((ops.map lop).toList.take ops.size)).map (·.dst)).zip ws).take i)).slots r).map fun v => (r, v)), σ.hp, σ.nt⟩
        have lkρ : ∀ (l : List Nat) (f : Nat → Option AV) (s : Nat) (v : AV), lk (l.filterMap fun s => (f s).map fun v => (s, v)) s = some v → s ∈ l ∧ f s = some v := by
          intro l f
          induction l with
          | nil => intro s v e; cases e
          | cons x l ih =>
            intro s v e
            rw [List.filterMap_cons] at e
            cases q : f x with
            | none => simp only [q, Option.map_none] at e; obtain ⟨h1, h2⟩ := ih s v e; exact ⟨by simp [h1], h2⟩
            | some y =>
              simp only [q, Option.map_some, lk] at e
              split at e
              · rename_i hx; cases e; subst hx; exact ⟨by simp, q⟩
              · obtain ⟨h1, h2⟩ := ih s v e; exact ⟨by simp [h1], h2⟩
        have lkρ2 : ∀ (l : List Nat) (f : Nat → Option AV) (s : Nat), s ∈ l → lk (l.filterMap fun s => (f s).map fun v => (s, v)) s = f s := by
          intro l f
          induction l with
          | nil => intro s h; cases h
          | cons x l ih =>
            intro s hmem
            rw [List.filterMap_cons]
            by_cases hx : x = s
            · subst hx
              cases q : f x with
              | none =>
                simp only [Option.map_none]
                by_cases hm : x ∈ l
                · rw [ih x hm, q]
                · cases q2 : lk (l.filterMap fun s => (f s).map fun v => (s, v)) x with
                  | none => rfl
                  | some y => exact absurd (lkρ l f x y q2).1 hm
              | some y => simp [lk]
            · have hm : s ∈ l := by simp only [List.mem_cons] at hmem; rcases hmem with h1 | h1; exact absurd h1.symm hx; exact h1
              cases q : f x with
              | none => simp only [Option.map_none]; exact ih s hm
              | some y => simp only [Option.map_some, lk, if_neg hx]; exact ih s hm
        have fr : FRel g0 h0 w0 ρ g w a := ⟨hh.st, fun r v e => by
          obtain ⟨h1, h2⟩ := lkρ _ _ r v e
          exact look r h1 v h2, by rw [hts]; exact hh.nt, hdf⟩
        have hvρ : b = true → valOp P ρ (lop o) v := fun hb => valOp_congr (σ := stAt σ ((((((ops.map lop).toList.take ops.size)).map (·.dst)).zip ws).take i)) (stAt_hp _ σ).1 (fun x hx => by
          cases x with
          | tmp r =>
            have hmem : r ∈ Ab.looks (ops.map lop) (lop o) := by
              simp only [Ab.looks, List.mem_append, List.mem_filterMap]
              exact .inl ⟨.tmp r, by simpa using hx, rfl⟩
            exact (lkρ2 _ (fun r => lk (stAt σ ((((((ops.map lop).toList.take ops.size)).map (·.dst)).zip ws).take i)).slots r) r hmem).symm
          | const c => rfl
          | «global» q => rfl
          | func f => rfl) (hval hb)
        by_cases hif : i = f
        · -- it is made
          subst hif
          obtain ⟨oA, hoA, hAd, hAop, hAg⟩ := hA.al
          rw [hoA] at ho; cases ho
          obtain ⟨i', d', e1, e2, e3, e4, e5, e6⟩ := tyOf_some hti
          obtain ⟨zv, z1, z2⟩ := e6 z hz
          have z3 := RepL.cellsAV (g := g) z2
          obtain ⟨k1, k2⟩ := Pend.new hh.st.hp zv.cells t0
          have hl1 : lop o = { o with dst := none, op := .move (.const (.bool false)) } := by unfold lop; rw [hAop]
          have hvb : b = true := by
            rcases hguard with ⟨_, hb⟩ | ⟨j, want, c, hg, _⟩
            · exact hb
            · rw [lop_guard, hAg] at hg; cases hg
          have hput := hh.put hs hc hltL his ho1 hoff hv (u := .bool false) (by
            have hq := hvρ hvb
            rw [hl1] at hq
            have : v = .lit (.bool false) := by
              simp only [valOp, qOp, pureOp, ev, constAV] at hq
              exact (Option.some.inj hq).symm
            subst this; exact .lit rfl) k1
          rw [hl1] at hput
          unfold wpOp
          simp only [hoA, Region.wanted, hAg, if_true]
          refine .inl ?_
          unfold Oper.wp
          rw [show (execOp a.eval o).run P w = .ok (.value (.pointer (some ⟨w.heap.size, 0, none⟩))) (w.alloc (.cells zv.cells t0)) by simp [execOp, hAop, Instr.alloc, zeroValue, typeInfo, e1, z1, newVar, newRow]]
          show wpAny P .any ops Q fuel (listed.setIfInBounds i true) (a.put o.dst _) _
          rw [hAd]
          refine ih _ fuel g _ _ a1 (by simpa using hsz) hc' hm' (by omega) (by rw [hon]; exact hput) ⟨fun _ => ?_, fun q => ?_⟩ (by simp [Act.put, hts]) (by simp [Act.put, hdf]) (fun k hk => ?_)
          · refine ⟨w.heap.size, zv.cells, k2, hh.st.keeps.size, ?_, ?_, fun q => ?_⟩
            · have hlt2 : d < a.tmps.size := by rw [hts, hh.nt]; exact hA.lt
              simp [Act.put, hlt2]
            · have := z3.1.1; simp at this; omega
            · rw [hon] at q
              simp only [if_neg (Ne.symm hA.ne)] at q
              have := hl.late q; rw [hoff] at this; cases this
          · rw [hon]; simp
          · simp only [Act.put, Array.getElem?_setIfInBounds_ne (Ne.symm hk)]; exact hag k hk
        · by_cases hiS : i = s
          · -- its first value
            subst hiS
            obtain ⟨oS, y, hS, hSd, hSop, hSg, e, he, heb, heo⟩ := hA.st
            rw [hS] at ho; cases ho
            have hfon : isOn listed f = true := by rw [← heo]; exact hedges e he heb
            obtain ⟨bk, row, pd, hb0, htm, hrs, _⟩ := hl.made hfon
            have hl1 : lop o = { o with dst := some d, op := .move y } := by unfold lop; rw [hSop]
            have hvb : b = true := by
              rcases hguard with ⟨_, hb⟩ | ⟨j, want, c, hg, _⟩
              · exact hb
              · rw [lop_guard, hSg] at hg; cases hg
            have hev : ev ρ y = some v := by
              have hq := hvρ hvb
              rw [hl1] at hq
              simp only [valOp, qOp, pureOp] at hq
              cases q : ev ρ y with
              | none => rw [q] at hq; simp at hq
              | some v' => rw [q] at hq; simpa using hq
            obtain ⟨cs, hcs1, hcs2⟩ := hcs v hv
            obtain ⟨c1, c2⟩ := (fr.ev hev).cells hcs1
            have hcl : (a.eval y).cells.size = cs.length := by have := c1.1; simpa using this
            have hrow' : (row.toList.take 0 ++ (a.eval y).cells.toList ++ row.toList.drop (0 + (a.eval y).cells.toList.length)).toArray = (a.eval y).cells := by
              have : row.toList.drop (0 + (a.eval y).cells.toList.length) = [] := List.drop_eq_nil_of_le (by simp; omega)
              rw [this]; simp
            have hrun := run_storeAt' (P := P) (w := w) hti pd.row (off := 0) c2 (by omega) (by omega)
            rw [hrow'] at hrun
            obtain ⟨k1, k2⟩ := pd.set hh.st hb0 (a.eval y).cells
            have hd1 : a.eval (.tmp d) = .pointer (some ⟨bk, 0, none⟩) := by
              simp only [Act.eval, Array.getD_eq_getD_getElem?, htm, Option.getD_some]
            have hput := Half.put (g' := g) (w' := w) hs hh hc hltL his ho1 hoff hv (fr.ev hev) (.refl hh.st.hp)
            rw [hl1] at hput
            unfold wpOp
            simp only [hS, Region.wanted, hSg, if_true]
            refine .inl ?_
            unfold Oper.wp
            rw [show (execOp a.eval o).run P w = .ok .skip (w.setRow bk (a.eval y).cells) by
              simp only [execOp, hSop, hd1, Sem.run_bind, hrun, Result.andThen_ok, Sem.run_pure]]
            show wpAny P .any ops Q fuel (listed.setIfInBounds i true) (a.put o.dst undef) _
            rw [hSd]
            show wpAny P .any ops Q fuel (listed.setIfInBounds i true) a _
            have hput' : Half (ops.map lop) ops.size σ ws g0 h0 w0 (fun j => if j = i then true else isOn listed j) g (w.setRow bk (a.eval y).cells) (a1.put (some d) (a.eval y)) :=
              ⟨k1, hput.nt, hput.defers, hput.wrt, hput.old⟩
            refine ih _ fuel g _ a _ (by simpa using hsz) hc' hm' (by omega) (by rw [hon]; exact hput') ⟨fun _ => ⟨bk, _, k2, hb0, htm, by omega, fun _ => ⟨v, cs, hv, hcs1, c1, c2⟩⟩, fun q => ?_⟩ (by simp [Act.put, hts]) hdf (fun k hk => ?_)
            · rw [hon]; simp only [if_neg (show f ≠ i from hA.ne)]; exact hfon
            · simp only [Act.put, Array.getElem?_setIfInBounds_ne (Ne.symm hk)]; exact hag k hk
          · obtain ⟨hlo, hne⟩ := hA.other i o hif hiS ho
            rw [hlo] at look hguard hval ho1 hvρ
            have hwant : Region.wanted o (yielded ops a.tmps) = b := by
              rcases hguard with ⟨hg, rfl⟩ | ⟨j, want, c, hg, hbit, rfl⟩
              · simp [Region.wanted, hg]
              · have : (yielded ops a.tmps j == some want) = (c == want) := by
                  unfold guardBit at hbit
                  split at hbit
                  · rename_i dj hdj
                    have hmem : dj ∈ Ab.looks (ops.map lop) o := by simp only [Ab.looks, hg, List.mem_append]; exact .inr (by rw [hdj]; simp)
                    have hdj' : (ops[j]?).bind (·.dst) = some dj := by
                      obtain ⟨oj, hoj, hoj2⟩ := Option.bind_eq_some_iff.1 hdj
                      obtain ⟨oj', h1, rfl⟩ := map_get hoj
                      by_cases hjf : j = f
                      · subst hjf
                        obtain ⟨oA, hoA, hAd, hAop, hAg⟩ := hA.al
                        rw [hoA] at h1; cases h1
                        simp [lop, hAop] at hoj2
                      · by_cases hjs : j = s
                        · subst hjs
                          obtain ⟨oS, y, hS, hSd, hSop, hSg, _⟩ := hA.st
                          rw [hS] at h1; cases h1
                          simp [lop, hSop] at hoj2
                          subst hoj2
                          exact (hA.look i o ho (by rw [hlo]; exact hmem)).elim
                        · obtain ⟨q1, _⟩ := hA.other j oj' hjf hjs h1
                          rw [q1] at hoj2
                          rw [h1]; exact hoj2
                    split at hbit
                    · rename_i b' hl'
                      cases hbit
                      obtain ⟨u, e1, e2⟩ := look dj hmem _ hl'
                      have := (Rep.of_lit e2).1
                      subst this
                      simp [yielded, hdj', e1]
                    · rename_i hl'
                      cases hbit
                      obtain ⟨u, e1, e2⟩ := look dj hmem _ hl'
                      cases e2
                      simp [yielded, hdj', e1]
                    · cases hbit
                  · cases hbit
                simp [Region.wanted, hg, this]
            have next : ∀ u g' w', Rep g' u v → Step1 g σ.hp w g' σ.hp w' → wpAny P .any ops Q fuel (listed.setIfInBounds i true) (a.put o.dst u) w' := by
              intro u g' w' hu st
              have hput := hh.put hs hc hltL his ho1 hoff hv hu st
              refine ih _ fuel g' w' _ (a1.put o.dst u) (by simpa using hsz) hc' hm' (by omega) (by rw [hon]; exact hput) ⟨fun q => ?_, fun q => ?_⟩ (by cases o.dst <;> simp [Act.put, hts]) (by cases o.dst <;> simp [Act.put, hdf]) (fun k hk => ?_)
              · rw [hon] at q
                simp only [if_neg (Ne.symm hif)] at q
                obtain ⟨bk, row, pd, q1, q2, q3, q4⟩ := hl.made q
                refine ⟨bk, row, pd.step st, q1, ?_, q3, fun q5 => ?_⟩
                · cases hod : o.dst with
                  | none => exact q2
                  | some d2 =>
                    have : d2 ≠ d := fun q => hne (by rw [hod, q])
                    simp only [Act.put, Array.getElem?_setIfInBounds_ne this]; exact q2
                · rw [hon] at q5
                  simp only [if_neg (Ne.symm hiS)] at q5
                  obtain ⟨v', cs', r1, r2, r3, r4⟩ := q4 q5
                  exact ⟨v', cs', r1, r2, r3.mono st.ext, r4⟩
              · rw [hon] at q ⊢
                simp only [if_neg (Ne.symm hiS), if_neg (Ne.symm hif)] at q ⊢
                exact hl.late q
              · cases hod : o.dst with
                | none => exact hag k hk
                | some d2 =>
                  by_cases hkd : d2 = k
                  · subst hkd
                    have h1 : a.tmps.size = a1.tmps.size := hts
                    simp only [Act.put]
                    rw [Array.getElem?_setIfInBounds_self, Array.getElem?_setIfInBounds_self, h1]
                  · simp only [Act.put, Array.getElem?_setIfInBounds_ne hkd]; exact hag k hk
            unfold wpOp
            simp only [ho]
            cases b with
            | true =>
              rw [if_pos hwant]
              refine .inl ?_
              exact valOp_sound fr (hvρ rfl) next
            | false =>
              rw [if_neg (by rw [hwant]; simp)]
              have := hskip rfl
              subst this
              exact next undef g w (Rep.tup (cs := #[]) (as := []) rfl (by simp)) (.refl hh.st.hp)

/-- A REGION OF WHICH THE EFFECT IS A NEW VARIABLE WITH ITS FIRST VALUE. Behind it the walk goes on from one state. -/
theorem aw_let {Q : Exit → St → Prop} {σ' : St} {n : Nat} (N : Nat) {id : Nat} {l : List Oper} (f s d : Nat) (t0 : TypeId) {ti : TI} {z : List AV} (hti : tyOf P t0 = some ti) (hz : ti.zero = some z) (hzl : z.length = ti.size) (hsd : lk σ.slots d = none) (hn : σ.nt = n)
    (hB : statB (l.map lop).toArray n l.length = true) (hA : statL l.toArray n f s d t0 = true) (hm : P.follows .mixedOrders = true)
    (h : qwl P (l.map lop).toArray (l.map lop) (afterL d ti.size N fun σ2 => St.cp N σ2 σ') σ) (k : Q .normal σ') : Aw P (.region id l.toArray true) Q σ := by
  intro g0 h0 w0 g w a r
  obtain ⟨ws, tr, hK⟩ := qwl_trace _ σ h
  have hmap : l.toArray.map lop = (l.map lop).toArray := by simp
  have hB' : statB (l.map lop).toArray σ.nt l.length = true := by rw [hn]; exact hB
  have hA' := StatL.of (show statL l.toArray σ.nt f s d t0 = true by rw [hn]; exact hA)
  have hs : Stat (l.toArray.map lop) σ.nt l.toArray.size := by rw [hmap]; exact Stat.of_B hB'
  refine wp_region_any hm ?_
  have off : ∀ j, isOn (Array.replicate l.toArray.size false) j = false := fun j => by
    unfold isOn
    simp only [Array.getD_eq_getD_getElem?, Array.getElem?_replicate]
    split <;> rfl
  have hl1 : (l.toArray.map lop).toList = l.map lop := by simp
  have hdst : ∀ j oj, (l.toArray.map lop)[j]? = some oj → j ≠ s → oj.dst ≠ some d := fun j oj hj hjs => by
    obtain ⟨o, ho, rfl⟩ := map_get hj
    by_cases hjf : j = f
    · subst hjf
      obtain ⟨o', ho', h1, h2, h3⟩ := hA'.al
      rw [ho] at ho'; cases ho'
      simp [lop, h2]
    · obtain ⟨h1, h2⟩ := hA'.other j o hjf hjs ho
      rw [h1]; exact h2
  unfold afterL at hK
  obtain ⟨hNN, hK⟩ := hK
  rw [(stAt_hp _ σ).1] at hNN
  -- the value that is stored
  have hval : ∃ v cs, ws[s]? = some v ∧ v.cells = some cs ∧ cs.length = ti.size ∧ St.cp N ({ stAt σ ((((l.toArray.map lop).toList).map fun o : Oper => o.dst).zip ws) with hp := { σ.hp with boxes := σ.hp.boxes ++ [(σ.hp.nx, cs)], nx := σ.hp.nx + 1 } }.put (some d) (.ptr σ.hp.nx 0)) σ' := by
    cases hv : (lk (stAt σ (((l.map lop).map (·.dst)).zip ws)).slots d).bind AV.cells with
    | none => rw [hv] at hK; exact hK.elim
    | some cs =>
      rw [hv] at hK
      obtain ⟨h1, h2⟩ := hK
      obtain ⟨v, e1, e2⟩ := Option.bind_eq_some_iff.1 hv
      refine ⟨v, cs, ?_, e2, h1, ?_⟩
      · rcases lk_stAt (nt := σ.nt) _ σ d v rfl (fun k d w' q => by
          have q' := items_get (i := k) (m := k + 1) (by rw [List.getElem?_take, if_pos (by omega)]; exact q)
          obtain ⟨_, o1, q2, q3, _⟩ := q'
          have q2' : (l.toArray.map lop)[k]? = some o1 := by rw [← hl1] at q2; simpa using q2
          have := (Array.getElem?_eq_some_iff.1 q2').1
          exact hs.bound k o1 d (by simpa using this) q2' q3) e1 with ⟨j, h1, h2⟩ | ⟨h1, h2⟩
        · have q' := items_get (i := j) (m := j + 1) (by rw [List.getElem?_take, if_pos (by omega)]; exact h1)
          obtain ⟨_, oj, q1, q2, q3⟩ := q'
          have q1' : (l.toArray.map lop)[j]? = some oj := by rw [← hl1] at q1; simpa using q1
          by_cases hjs : j = s
          · rw [← hjs]; exact q3
          · exact (hdst j oj q1' hjs q2).elim
        · rw [hsd] at h2; cases h2
      · rw [hl1]
        rw [(stAt_hp _ σ).1] at h2
        exact h2
  obtain ⟨v, cs, hv1, hv2, hv3, hcp⟩ := hval
  have hg : g0.nx ≤ N := by
    have h1 : g0.nx ≤ g.nx := r.st.ext.nx
    have h2 := r.st.hp.nx
    rw [h2] at h1; omega
  have out : ∀ g w a v' cs', ws[s]? = some v' → v'.cells = some cs' →
      FRel g0 h0 w0 ({ stAt σ ((((l.toArray.map lop).toList).map fun o : Oper => o.dst).zip ws) with hp := { σ.hp with boxes := σ.hp.boxes ++ [(σ.hp.nx, cs')], nx := σ.hp.nx + 1 } }.put (some d) (.ptr σ.hp.nx 0)) g w a → Post g0 h0 w0 Q .normal a w := by
    intro g w a v' cs' e1 e2 fr
    rw [hv1] at e1; cases e1
    rw [hv2] at e2; cases e2
    obtain ⟨g2, fr2⟩ := hcp g0 h0 w0 g w a hg fr
    exact ⟨σ', g2, k, fr2⟩
  refine quiet_let (Q := Post g0 h0 w0 Q) (rest := 0) (N := N) hti hz hzl hs hA' hsd (by rw [hl1, hmap]; exact tr) (fun v' e => by rw [hv1] at e; cases e; exact ⟨cs, hv2, hv3⟩) out _ _ _ g _ a a (by simp) (fun i j _ hj => by rw [off] at hj; cases hj) (Nat.le_refl _) (by
      refine Nat.le_trans (List.length_filter_le _ _) ?_
      simp) ⟨⟨r.st.hp.drew, r.st.ext, r.st.keeps.trans (Keeps.drew (Live g σ.hp) w) r.st.live, r.st.live, r.st.memo⟩, r.nt, r.defers, fun j o v s hL => (by rw [off] at hL; cases hL), fun s v _ e => r.slots s v e⟩ ⟨fun q => (by rw [off] at q; cases q), fun q => (by rw [off] at q; cases q)⟩ rfl r.defers (fun _ _ => rfl)
end
end Go.Ab
