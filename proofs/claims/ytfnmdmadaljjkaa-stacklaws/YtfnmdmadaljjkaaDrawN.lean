/- Regions that draw their order, and of which the effect is some new variables with their first values. Conditions: those that each theorem names. -/
import Derived.Test.YtfnmdmadaljjkaaDrawM
set_option linter.unusedVariables false
set_option linter.unusedSimpArgs false
namespace Go.Ab
/-- A new variable: where it is made, where it is first stored to, its place, its type and size. -/
structure LV where
  f : Nat
  s : Nat
  d : Nat
  t : TypeId
  n : Nat
theorem nodup_inj {α : Type} {f : α → Nat} : ∀ {l : List α}, (l.map f).Nodup → ∀ {x y : α}, x ∈ l → y ∈ l → f x = f y → x = y
  | [], _, x, y, hx, _, _ => by cases hx
  | z :: l, h, x, y, hx, hy, e => by
    rw [List.map_cons, List.nodup_cons] at h
    rcases List.mem_cons.1 hx with rfl | hx
    · rcases List.mem_cons.1 hy with rfl | hy
      · rfl
      · exact (h.1 (e ▸ List.mem_map.2 ⟨y, hy, rfl⟩)).elim
    · rcases List.mem_cons.1 hy with hy | hy
      · exact (h.1 (hy ▸ e ▸ List.mem_map.2 ⟨x, hx, rfl⟩)).elim
      · exact nodup_inj h.2 hx hy e
section
variable {P : Program} {ops : Array Oper} {σ : St}
def oneL (ops : Array Oper) (nt : Nat) (x : LV) : Bool := (match ops[x.f]? with
  | some ⟨some d', .alloc t', _, _, after, none⟩ => x.t == t' && x.d == d' && decide (x.d < nt)
  | _ => false) &&
  (match ops[x.s]? with
  | some ⟨none, .store t' (.tmp d') _, _, _, after, none⟩ => x.t == t' && x.d == d' && after.toList.any fun e => Region.binds .any e && e.on == x.f
  | _ => false)
def statLN (ops : Array Oper) (nt : Nat) (ls : List LV) : Bool :=
  ls.all (oneL ops nt) && decide (ls.map (fun x => x.f)).Nodup && decide (ls.map (fun x => x.s)).Nodup && decide (ls.map (fun x => x.d)).Nodup && (ls.all fun x => ls.all fun y => x.f != y.s) &&
  (List.range ops.size).all fun i => let o := ops.getD i default; ((ls.any fun x => i == x.f || i == x.s) || (match o.op with | .alloc _ => false | .store _ _ _ => false | _ => true) && ls.all fun x => !(o.dst == some x.d)) && ls.all fun x => !(looks (ops.map lop) (lop o)).contains x.d
structure StatLN (ops : Array Oper) (nt : Nat) (ls : List LV) : Prop where
  one : ∀ x ∈ ls, StatL1 ops nt x.f x.s x.d x.t
  nf : (ls.map (fun x => x.f)).Nodup
  ns : (ls.map (fun x => x.s)).Nodup
  nd : (ls.map (fun x => x.d)).Nodup
  fs : ∀ x ∈ ls, ∀ y ∈ ls, x.f ≠ y.s
  other : ∀ (i : Nat) (o : Oper), (∀ x ∈ ls, i ≠ x.f ∧ i ≠ x.s) → ops[i]? = some o → lop o = o ∧ ∀ x ∈ ls, o.dst ≠ some x.d
  look : ∀ (i : Nat) (o : Oper), ops[i]? = some o → ∀ x ∈ ls, x.d ∉ looks (ops.map lop) (lop o)
theorem StatLN.of {nt : Nat} {ls : List LV} (h : statLN ops nt ls = true) : StatLN ops nt ls := by
  unfold statLN at h
  simp only [Bool.and_eq_true, decide_eq_true_eq] at h
  obtain ⟨⟨⟨⟨⟨a1, a2⟩, a3⟩, a4⟩, a5⟩, h4⟩ := h
  have getD : ∀ j o, ops[j]? = some o → ops.getD j default = o := fun j o e => by rw [Array.getD_eq_getD_getElem?, e]; rfl
  simp only [List.all_eq_true, List.mem_range, Bool.and_eq_true, Bool.or_eq_true, List.any_eq_true, beq_iff_eq, Bool.not_eq_true'] at h4
  simp only [List.all_eq_true, bne_iff_ne, ne_eq] at a5
  refine ⟨fun x hx => ?_, a2, a3, a4, a5, fun i o hn hi => ?_, fun i o hi x hx => ?_⟩
  · have := List.all_eq_true.1 a1 x hx
    unfold oneL at this
    rw [Bool.and_eq_true] at this
    exact .of this.1 this.2
  · have hsz := (Array.getElem?_eq_some_iff.1 hi).1
    have := (h4 i hsz).1
    rw [getD i o hi] at this
    rcases this with ⟨x, hx, q⟩ | q
    · rcases q with q | q
      · exact absurd q (hn x hx).1
      · exact absurd q (hn x hx).2
    · obtain ⟨q1, q2⟩ := q
      refine ⟨?_, fun x hx e => by have := q2 x hx; rw [e] at this; simp at this⟩
      unfold lop
      split at q1
      · cases q1
      · cases q1
      · rename_i n1 n2
        split
        · rename_i t ho; exact (n1 _ ho).elim
        · rename_i t d y ho; exact (n2 _ _ _ ho).elim
        · rfl
  · have hsz := (Array.getElem?_eq_some_iff.1 hi).1
    have := (h4 i hsz).2 x hx
    rw [getD i o hi] at this
    intro q; simp [q] at this
/-- The new variables, one behind the other. -/
def addL : St → List LV → List (List AV) → St
  | σ, x :: r, c :: cs => addL ({ σ with hp := { σ.hp with boxes := σ.hp.boxes ++ [(σ.hp.nx, c)], nx := σ.hp.nx + 1 } }.put (some x.d) (.ptr σ.hp.nx 0)) r cs
  | σ, _, _ => σ
/-- Behind it, as the walk asks it. -/
def goL (sl : List (Nat × AV)) (Q : St → Prop) : List LV → St → Prop
  | [], σ => Q σ
  | x :: r, σ => match (lk sl x.d).bind AV.cells with
    | some cs => cs.length = x.n ∧ goL sl Q r ({ σ with hp := { σ.hp with boxes := σ.hp.boxes ++ [(σ.hp.nx, cs)], nx := σ.hp.nx + 1 } }.put (some x.d) (.ptr σ.hp.nx 0))
    | none => False
def afterLN (ls : List LV) (N : Nat) (Q : St → Prop) (σ : St) : Prop := σ.hp.nx + ls.length ≤ N ∧ goL σ.slots Q ls σ
theorem afterLN_mk {ls : List LV} {N : Nat} {Q : St → Prop} {sl : List (Nat × AV)} {bx : List (Nat × List AV)} {tk : List (Nat × Tk)} {nx nt : Nat} :
    afterLN ls N Q ⟨sl, ⟨bx, tk, nx⟩, nt⟩ = (nx + ls.length ≤ N ∧ goL sl Q ls ⟨sl, ⟨bx, tk, nx⟩, nt⟩) := rfl
theorem goL_nil {sl : List (Nat × AV)} {Q : St → Prop} {σ : St} : goL sl Q [] σ = Q σ := rfl
theorem goL_cons {sl : List (Nat × AV)} {Q : St → Prop} {x : LV} {r : List LV} {sl2 : List (Nat × AV)} {bx : List (Nat × List AV)} {tk : List (Nat × Tk)} {nx nt : Nat} :
    goL sl Q (x :: r) ⟨sl2, ⟨bx, tk, nx⟩, nt⟩ = (match (lk sl x.d).bind AV.cells with
    | some cs => cs.length = x.n ∧ goL sl Q r ((⟨sl2, ⟨bx ++ [(nx, cs)], tk, nx + 1⟩, nt⟩ : St).put (some x.d) (.ptr nx 0))
    | none => False) := rfl
theorem goL_told {sl : List (Nat × AV)} {Q : St → Prop} : ∀ {ls : List LV} {σ : St}, goL sl Q ls σ → ∃ css : List (List AV), css.length = ls.length ∧ (∀ (k : Nat) (x : LV), ls[k]? = some x → ∃ v c, lk sl x.d = some v ∧ v.cells = some c ∧ css[k]? = some c ∧ c.length = x.n) ∧ Q (addL σ ls css)
  | [], σ, h => ⟨[], rfl, ⟨fun k x e => by simp at e, h⟩⟩
  | x :: r, σ, h => by
    unfold goL at h
    cases hv : (lk sl x.d).bind AV.cells with
    | none => rw [hv] at h; exact h.elim
    | some cs =>
      rw [hv] at h
      obtain ⟨h1, h2⟩ := h
      obtain ⟨css, c1, c2, c3⟩ := goL_told h2
      obtain ⟨v, e1, e2⟩ := Option.bind_eq_some_iff.1 hv
      refine ⟨cs :: css, by simp [c1], fun k y e => ?_, c3⟩
      cases k with
      | zero => cases e; exact ⟨v, cs, e1, e2, rfl, h1⟩
      | succ k => exact c2 k y e
variable {g0 : Gh} {h0 : Hp} {w0 : World}
theorem adoptAll {a : Act} {w : World} : ∀ (ls : List LV) (css : List (List AV)) (σ' : St) (g : Gh), css.length = ls.length → (ls.map (fun x => x.d)).Nodup → Step1 g0 h0 w0 g σ'.hp w →
    (∀ i u, lk σ'.slots i = some u → i ∉ ls.map (fun x => x.d) → ∃ x, a.tmps[i]? = some x ∧ Rep g x u) → a.tmps.size = σ'.nt → a.defers = [] → (∀ x ∈ ls, x.d < σ'.nt) →
    (∀ (k : Nat) (x : LV) (c : List AV), ls[k]? = some x → css[k]? = some c → ∃ b row, Pend g σ'.hp w b row x.t ∧ w0.heap.size ≤ b ∧ a.tmps[x.d]? = some (.pointer (some ⟨b, 0, none⟩)) ∧ RepL g row.toList c ∧ ∀ v ∈ row.toList, v.oneCell' = true) →
    (∀ x ∈ ls, ∀ y ∈ ls, x ≠ y → a.tmps[x.d]? ≠ a.tmps[y.d]?) → ∃ g', FRel g0 h0 w0 (addL σ' ls css) g' w a
  | [], css, σ', g, hl, hnd, st, hsl, hnt, hdf, hlt, hp, hne => ⟨g, st, fun i u e => hsl i u e (by simp), hnt, hdf⟩
  | x :: r, [], σ', g, hl, hnd, st, hsl, hnt, hdf, hlt, hp, hne => by simp at hl
  | x :: r, c :: cs, σ', g, hl, hnd, st, hsl, hnt, hdf, hlt, hp, hne => by
    obtain ⟨b, row, pd, hb0, htm, k3, k4⟩ := hp 0 x c rfl rfl
    obtain ⟨st2, hrep⟩ := pd.adopt st hb0 c k3 k4
    rw [List.map_cons, List.nodup_cons] at hnd
    unfold addL
    refine adoptAll r cs _ (g.addBox b) (by simpa using hl) hnd.2 (by rw [(put_hp _ _ _).1]; exact st2) (fun i u e hi => ?_) (by rw [(put_hp _ _ _).2]; exact hnt) hdf (fun y hy => by rw [(put_hp _ _ _).2]; exact hlt y (List.mem_cons_of_mem _ hy)) (fun k y c' e1 e2 => ?_) (fun y hy z hz q => hne y (List.mem_cons_of_mem _ hy) z (List.mem_cons_of_mem _ hz) q)
    · have hxl := hlt x (by simp)
      simp only [St.put, hxl, if_true, lk] at e
      split at e
      · rename_i hid
        cases e; subst hid
        exact ⟨_, htm, hrep⟩
      · rename_i hid
        obtain ⟨u', e1, e2⟩ := hsl i u e (by rw [List.map_cons, List.mem_cons, not_or]; exact ⟨fun q => hid q.symm, hi⟩)
        exact ⟨u', e1, e2.mono (Ext.addBox g b)⟩
    · obtain ⟨b2, row2, pd2, q1, q2, q3, q4⟩ := hp (k + 1) y c' e1 e2
      have hym : y ∈ r := List.mem_of_getElem? e1
      have hxy : x ≠ y := fun e => hnd.1 (e ▸ List.mem_map.2 ⟨y, hym, rfl⟩)
      have hbb : b2 ≠ b := fun e => by
        subst e
        exact hne x (by simp) y (List.mem_cons_of_mem _ hym) hxy (by rw [htm, q2])
      refine ⟨b2, row2, ?_, q1, q2, q3.mono (Ext.addBox g b), q4⟩
      rw [(put_hp _ _ _).1]
      exact pd2.addBox hbb st.hp.nx
theorem quiet_letN {ls : List LV} {ws : List AV} {css : List (List AV)} {Q : Exit → Act → World → Prop} (hty : ∀ x ∈ ls, ∃ ti z, tyOf P x.t = some ti ∧ ti.zero = some z ∧ z.length = ti.size ∧ x.n = ti.size)
    (hs : Stat (ops.map lop) σ.nt ops.size) (hA : StatLN ops σ.nt ls) (t : Trace P (ops.map lop) (ops.map lop).toList σ ws) (hlen : css.length = ls.length)
    (hcs : ∀ (k : Nat) (x : LV), ls[k]? = some x → ∃ v c, ws[x.s]? = some v ∧ v.cells = some c ∧ css[k]? = some c ∧ c.length = x.n)
    (fin : ∀ g w a, FRel g0 h0 w0 (addL (stAt σ ((((ops.map lop).toList).map fun o : Oper => o.dst).zip ws)) ls css) g w a → Q .normal a w) :
    ∀ (m : Nat) (listed : Array Bool) (fuel : Nat) (g : Gh) (w : World) (a a1 : Act), listed.size = ops.size → Closed (ops.map lop) (isOn listed) →
      ((List.range ops.size).filter fun j => !isOn listed j).length ≤ m → m ≤ fuel → Half (ops.map lop) ops.size σ ws g0 h0 w0 (isOn listed) g w a1 →
      (∀ x ∈ ls, LetI σ g0 w0 x.f x.s x.d x.t x.n ws (isOn listed) g w a) → (∀ x ∈ ls, ∀ y ∈ ls, x ≠ y → isOn listed x.f = true → isOn listed y.f = true → a.tmps[x.d]? ≠ a.tmps[y.d]?) →
      a.tmps.size = a1.tmps.size → a.defers = [] → (∀ i, i ∉ ls.map (fun x => x.d) → a.tmps[i]? = a1.tmps[i]?) → wpAny P .any ops Q fuel listed a w := by
  have hsz1 : (ops.map lop).size = ops.size := by simp
  have htk : (ops.map lop).toList.take ops.size = (ops.map lop).toList := List.take_of_length_le (by simp)
  have tk : Trace P (ops.map lop) ((ops.map lop).toList.take ops.size) σ ws := by rw [htk]; exact t
  have dne : ∀ x ∈ ls, ∀ y ∈ ls, x ≠ y → x.d ≠ y.d := fun x hx y hy q e => q (nodup_inj hA.nd hx hy e)
  have fne : ∀ x ∈ ls, ∀ y ∈ ls, x ≠ y → x.f ≠ y.f := fun x hx y hy q e => q (nodup_inj hA.nf hx hy e)
  have sne : ∀ x ∈ ls, ∀ y ∈ ls, x ≠ y → x.s ≠ y.s := fun x hx y hy q e => q (nodup_inj hA.ns hx hy e)
  intro m
  induction m with
  | zero =>
    intro listed fuel g w a a1 hsz hc hm hf hh hl hne hts hdf hag
    have hall : ∀ j, j < ops.size → isOn listed j = true := fun j hj => by
      cases q : isOn listed j with
      | true => rfl
      | false =>
        have : j ∈ (List.range ops.size).filter fun j => !isOn listed j := by simp [hj, q]
        rw [List.eq_nil_of_length_eq_zero (Nat.le_zero.1 hm)] at this
        cases this
    have hnil : Region.ready .any ops listed = [] := by
      cases q : Region.ready .any ops listed with
      | nil => rfl
      | cons i r =>
        have hi : i ∈ Region.ready .any ops listed := by rw [q]; simp
        obtain ⟨o, ho, hoff, _⟩ := (ready_iff hsz).1 hi
        have := (Array.getElem?_eq_some_iff.1 ho).1
        rw [hall i this] at hoff; cases hoff
    have hsS : ∀ x ∈ ls, isOn listed x.s = true := fun x hx => by
      obtain ⟨oS, y, hS, _⟩ := (hA.one x hx).st
      exact hall _ (Array.getElem?_eq_some_iff.1 hS).1
    have hsF : ∀ x ∈ ls, isOn listed x.f = true := fun x hx => (hl x hx).late (hsS x hx)
    have hnt : (stAt σ (((ops.map lop).toList.map fun o : Oper => o.dst).zip ws)).nt = σ.nt := (stAt_hp _ σ).2
    have main : Q .normal a w := by
      refine Exists.elim (adoptAll (a := a) (w := w) ls css (stAt σ (((ops.map lop).toList.map fun o : Oper => o.dst).zip ws)) g hlen hA.nd (by rw [(stAt_hp _ σ).1]; exact hh.st) (fun i u e hi => ?_) (by rw [hnt, hts]; exact hh.nt) hdf (fun x hx => by rw [hnt]; exact (hA.one x hx).lt) (fun k x c e1 e2 => ?_) (fun x hx y hy q => hne x hx y hy q (hsF x hx) (hsF y hy))) fun g' fr => fin g' w a fr
      · have main : ∃ x, a1.tmps[i]? = some x ∧ Rep g x u := by
          rcases lk_stAt (nt := σ.nt) _ σ i u rfl (fun k d w' q => by
            have q' := items_get (i := k) (m := k + 1) (by rw [List.getElem?_take, if_pos (by omega)]; exact q)
            obtain ⟨_, o1, q2, q3, _⟩ := q'
            have q2' : (ops.map lop)[k]? = some o1 := by simpa using q2
            have := (Array.getElem?_eq_some_iff.1 q2').1
            exact hs.bound k o1 d (by omega) q2' q3) e with ⟨j, h1, h2⟩ | ⟨h1, h2⟩
          · have q' := items_get (i := j) (m := j + 1) (by rw [List.getElem?_take, if_pos (by omega)]; exact h1)
            obtain ⟨_, oj, q1, q2, q3⟩ := q'
            have q1' : (ops.map lop)[j]? = some oj := by simpa using q1
            have hjp := (Array.getElem?_eq_some_iff.1 q1').1
            refine hh.wrt j oj u i (hall j (by omega)) q1' q3 q2 (fun k q hjk hLk hk hd' => ?_)
            have hk' : (ops.map lop).toList[k]? = some q := by simpa using hk
            obtain ⟨wk, hwk⟩ := t.at hk'
            have := items_of (m := k + 1) (Nat.lt_succ_self k) hk' hwk
            rw [List.getElem?_take, if_pos (by omega)] at this
            exact h2 k q.dst wk hjk this hd'
          · refine hh.old i u (fun k q hLk hk hd' => ?_) h2
            have hk' : (ops.map lop).toList[k]? = some q := by simpa using hk
            obtain ⟨wk, hwk⟩ := t.at hk'
            have := items_of (m := k + 1) (Nat.lt_succ_self k) hk' hwk
            rw [List.getElem?_take, if_pos (by omega)] at this
            exact h1 k q.dst wk this hd'
        obtain ⟨x, e1, e2⟩ := main
        exact ⟨x, by rw [hag i hi]; exact e1, e2⟩
      · have hx := List.mem_of_getElem? e1
        obtain ⟨b, row, pd, hb0, htm, hrs, hrow⟩ := (hl x hx).made (hsF x hx)
        obtain ⟨v, cs, k1, k2, k3, k4⟩ := hrow (hsS x hx)
        obtain ⟨v', c', r1, r2, r3, _⟩ := hcs k x e1
        rw [k1] at r1; cases r1
        rw [k2] at r2; cases r2
        rw [e2] at r3; cases r3
        exact ⟨b, row, by rw [(stAt_hp _ σ).1]; exact pd, hb0, htm, k3, k4⟩
    cases fuel with
    | zero => exact ⟨hnil, main⟩
    | succ fuel => exact ⟨fun _ => main, fun i hi => by rw [hnil] at hi; cases hi⟩
  | succ m ih =>
    intro listed fuel g w a a1 hsz hc hm hf hh hl hne hts hdf hag
    by_cases hz' : ((List.range ops.size).filter fun j => !isOn listed j).length ≤ m
    · exact ih listed fuel g w a a1 hsz hc hz' (by omega) hh hl hne hts hdf hag
    · obtain ⟨fuel, rfl⟩ : ∃ f, fuel = f + 1 := ⟨fuel - 1, by omega⟩
      have hex : ∃ j, j < ops.size ∧ isOn listed j = false := by
        cases q : (List.range ops.size).filter fun j => !isOn listed j with
        | nil => rw [q] at hz'; simp at hz'
        | cons x l =>
          have : x ∈ (List.range ops.size).filter fun j => !isOn listed j := by rw [q]; simp
          simp only [List.mem_filter, List.mem_range, Bool.not_eq_true'] at this
          exact ⟨x, this⟩
      refine ⟨fun hnil => ?_, fun i hi => ?_⟩
      · exfalso
        have least : ∀ n, ∀ j, j ≤ n → j < ops.size → isOn listed j = false → False := by
          intro n
          induction n using Nat.strongRecOn with
          | _ n ihn =>
            intro j hjn hj hoff
            have hready : j ∈ Region.ready .any ops listed := (ready_iff hsz).2 ⟨ops[j], Array.getElem?_eq_getElem hj, hoff, fun e he hb => by
              have hb' := hs.back j _ e hj (get_map (Array.getElem?_eq_getElem hj)) (by rw [lop_after]; exact he) hb
              cases q : isOn listed e.on with
              | true => rfl
              | false => exact (ihn (e.on) (by omega) e.on (Nat.le_refl _) (by omega) q).elim⟩
            rw [hnil] at hready; cases hready
        obtain ⟨j, hj, hoff⟩ := hex
        exact least j j (Nat.le_refl _) hj hoff
      · obtain ⟨o, ho, hoff, hedges⟩ := (ready_iff hsz).1 hi
        have his : i < ops.size := (Array.getElem?_eq_some_iff.1 ho).1
        have ho1 := get_map ho
        have hr := bef_on hc ho1 (fun e he hb => hedges e (by rw [lop_after] at he; exact he) hb)
        have hon : isOn (listed.setIfInBounds i true) = fun j => if j = i then true else isOn listed j := funext (isOn_set (by omega))
        have hc' : Closed (ops.map lop) (isOn (listed.setIfInBounds i true)) := by
          rw [hon]
          intro k j hb hj
          by_cases hki : k = i
          · simp [hki]
          · simp only [if_neg hki]
            by_cases hji : j = i
            · subst hji; exact hr k hb
            · simp only [if_neg hji] at hj; exact hc k j hb hj
        have hm' : ((List.range ops.size).filter fun j => !isOn (listed.setIfInBounds i true) j).length ≤ m := by
          have := filter_lt (f := fun j => !isOn listed j) (f' := fun j => !isOn (listed.setIfInBounds i true) j) (l := List.range ops.size) (fun x _ hx => by
            rw [hon] at hx
            by_cases hxi : x = i
            · simp [hxi] at hx
            · simpa [hxi] using hx) ⟨i, by simp [his], by simp [hoff], by rw [hon]; simp⟩
          omega
        have hltL : ∀ j, isOn listed j = true → j < ops.size := fun j hj => by
          rcases Nat.lt_or_ge j ops.size with q | q
          · exact q
          · unfold isOn at hj
            rw [Array.getD_eq_getD_getElem?, Array.getElem?_eq_none (by omega)] at hj
            cases hj
        have look : ∀ r ∈ Ab.looks (ops.map lop) (lop o), ∀ v, lk (stAt σ ((((((ops.map lop).toList.take ops.size)).map (·.dst)).zip ws).take i)).slots r = some v → ∃ u, a.tmps[r]? = some u ∧ Rep g u v := fun r hr' v e => by
          obtain ⟨u, e1, e2⟩ := hh.looks hs tk hc hltL his ho1 hoff hr hr' e
          exact ⟨u, by rw [hag r (fun q => by obtain ⟨x, hx, q⟩ := List.mem_map.1 q; exact hA.look i o ho x hx (q.symm ▸ hr'))]; exact e1, e2⟩
        obtain ⟨v, hv⟩ := tk.at (get_take his ho1)
        obtain ⟨b, hguard, hval, hskip⟩ := tk.step i (lop o) v (get_take his ho1) hv
        -- what is read is as in the walk
        let ρ : St := ⟨((Ab.looks (ops.map lop) (lop o)).filterMap fun r => (lk (stAt σ ((((((ops.map lop).toList.take ops.size)).map (·.dst)).zip ws).take i)).slots r).map fun v => (r, v)), σ.hp, σ.nt⟩
        have lkρ : ∀ (l : List Nat) (f : Nat → Option AV) (s : Nat) (v : AV), lk (l.filterMap fun s => (f s).map fun v => (s, v)) s = some v → s ∈ l ∧ f s = some v := by
          intro l f
          induction l with
          | nil => intro s v e; cases e
          | cons x l ih =>
            intro s v e
            rw [List.filterMap_cons] at e
            cases q : f x with
            | none => simp only [q, Option.map_none] at e; obtain ⟨h1, h2⟩ := ih s v e; exact ⟨by simp [h1], h2⟩
            | some y =>
              simp only [q, Option.map_some, lk] at e
              split at e
              · rename_i hx; cases e; subst hx; exact ⟨by simp, q⟩
              · obtain ⟨h1, h2⟩ := ih s v e; exact ⟨by simp [h1], h2⟩
        have lkρ2 : ∀ (l : List Nat) (f : Nat → Option AV) (s : Nat), s ∈ l → lk (l.filterMap fun s => (f s).map fun v => (s, v)) s = f s := by
          intro l f
          induction l with
          | nil => intro s h; cases h
          | cons x l ih =>
            intro s hmem
            rw [List.filterMap_cons]
            by_cases hx : x = s
            · subst hx
              cases q : f x with
              | none =>
                simp only [Option.map_none]
                by_cases hm : x ∈ l
                · rw [ih x hm, q]
                · cases q2 : lk (l.filterMap fun s => (f s).map fun v => (s, v)) x with
                  | none => rfl
                  | some y => exact absurd (lkρ l f x y q2).1 hm
              | some y => simp [lk]
            · have hm : s ∈ l := by simp only [List.mem_cons] at hmem; rcases hmem with h1 | h1; exact absurd h1.symm hx; exact h1
              cases q : f x with
              | none => simp only [Option.map_none]; exact ih s hm
              | some y => simp only [Option.map_some, lk, if_neg hx]; exact ih s hm
        have fr : FRel g0 h0 w0 ρ g w a := ⟨hh.st, fun r v e => by
          obtain ⟨h1, h2⟩ := lkρ _ _ r v e
          exact look r h1 v h2, by rw [hts]; exact hh.nt, hdf⟩
        have hvρ : b = true → valOp P ρ (lop o) v := fun hb => valOp_congr (σ := stAt σ ((((((ops.map lop).toList.take ops.size)).map (·.dst)).zip ws).take i)) (stAt_hp _ σ).1 (fun x hx => by
          cases x with
          | tmp r =>
            have hmem : r ∈ Ab.looks (ops.map lop) (lop o) := by
              simp only [Ab.looks, List.mem_append, List.mem_filterMap]
              exact .inl ⟨.tmp r, by simpa using hx, rfl⟩
            exact (lkρ2 _ (fun r => lk (stAt σ ((((((ops.map lop).toList.take ops.size)).map (·.dst)).zip ws).take i)).slots r) r hmem).symm
          | const c => rfl
          | «global» q => rfl
          | func f => rfl) (hval hb)
        by_cases hif : ∃ x ∈ ls, i = x.f
        · -- it is made
          obtain ⟨x, hx, rfl⟩ := hif
          obtain ⟨ti, z, hti, hz, hzl, hxn⟩ := hty x hx
          obtain ⟨oA, hoA, hAd, hAop, hAg⟩ := (hA.one x hx).al
          rw [hoA] at ho; cases ho
          obtain ⟨i', d', e1, e2, e3, e4, e5, e6⟩ := tyOf_some hti
          obtain ⟨zv, z1, z2⟩ := e6 z hz
          have z3 := RepL.cellsAV (g := g) z2
          obtain ⟨k1, k2⟩ := Pend.new hh.st.hp zv.cells x.t
          have hl1 : lop o = { o with dst := none, op := .move (.const (.bool false)) } := by unfold lop; rw [hAop]
          have hvb : b = true := by
            rcases hguard with ⟨_, hb⟩ | ⟨j, want, c, hg, _⟩
            · exact hb
            · rw [lop_guard, hAg] at hg; cases hg
          have hput := hh.put hs hc hltL his ho1 hoff hv (u := .bool false) (by
            have hq := hvρ hvb
            rw [hl1] at hq
            have : v = .lit (.bool false) := by
              simp only [valOp, qOp, pureOp, ev, constAV] at hq
              exact (Option.some.inj hq).symm
            subst this; exact .lit rfl) k1
          rw [hl1] at hput
          unfold wpOp
          simp only [hoA, Region.wanted, hAg, if_true]
          refine .inl ?_
          unfold Oper.wp
          rw [show (execOp a.eval o).run P w = .ok (.value (.pointer (some ⟨w.heap.size, 0, none⟩))) (w.alloc (.cells zv.cells x.t)) by simp [execOp, hAop, Instr.alloc, zeroValue, typeInfo, e1, z1, newVar, newRow]]
          show wpAny P .any ops Q fuel (listed.setIfInBounds x.f true) (a.put o.dst _) _
          rw [hAd]
          have hlt2 : x.d < a.tmps.size := by rw [hts, hh.nt]; exact (hA.one x hx).lt
          have tx : (a.put (some x.d) (.pointer (some ⟨w.heap.size, 0, none⟩))).tmps[x.d]? = some (.pointer (some ⟨w.heap.size, 0, none⟩)) := by simp [Act.put, hlt2]
          have ty : ∀ k, k ≠ x.d → (a.put (some x.d) (.pointer (some ⟨w.heap.size, 0, none⟩))).tmps[k]? = a.tmps[k]? := fun k hk => by
            simp only [Act.put, Array.getElem?_setIfInBounds_ne (Ne.symm hk)]
          have other : ∀ y ∈ ls, y ≠ x → isOn (listed.setIfInBounds x.f true) y.f = true → ∃ bk, w0.heap.size ≤ bk ∧ bk < w.heap.size ∧ a.tmps[y.d]? = some (.pointer (some ⟨bk, 0, none⟩)) := fun y hy hyx q => by
            rw [hon] at q
            simp only [if_neg (fne y hy x hx hyx)] at q
            obtain ⟨bk, row, pd, q1, q2, q3, q4⟩ := (hl y hy).made q
            exact ⟨bk, q1, block_lt pd.row, q2⟩
          refine ih _ fuel g _ _ a1 (by simpa using hsz) hc' hm' (by omega) (by rw [hon]; exact hput) (fun y hy => ?_) (fun y hy y' hy' hyy p q => ?_) (by simp [Act.put, hts]) (by simp [Act.put, hdf]) (fun k hk => ?_)
          · by_cases hyx : y = x
            · subst hyx
              refine ⟨fun _ => ⟨w.heap.size, zv.cells, k2, hh.st.keeps.size, tx, ?_, fun q => ?_⟩, fun q => ?_⟩
              · have := z3.1.1; simp at this; omega
              · rw [hon] at q
                simp only [if_neg (Ne.symm (hA.fs y hx y hx))] at q
                have := (hl y hx).late q; rw [hoff] at this; cases this
              · rw [hon]; simp
            · refine ⟨fun q => ?_, fun q => ?_⟩
              · rw [hon] at q
                simp only [if_neg (fne y hy x hx hyx)] at q
                obtain ⟨bk, row, pd, q1, q2, q3, q4⟩ := (hl y hy).made q
                refine ⟨bk, row, pd.step k1, q1, (ty _ (dne y hy x hx hyx)).trans q2, q3, fun q5 => ?_⟩
                rw [hon] at q5
                simp only [if_neg (Ne.symm (hA.fs x hx y hy))] at q5
                exact q4 q5
              · rw [hon] at q ⊢
                simp only [if_neg (Ne.symm (hA.fs x hx y hy)), if_neg (fne y hy x hx hyx)] at q ⊢
                exact (hl y hy).late q
          · by_cases hyx : y = x
            · subst hyx
              obtain ⟨bk, _, h2, h3⟩ := other y' hy' (Ne.symm hyy) q
              rw [tx, ty _ (dne y' hy' y hx (Ne.symm hyy)), h3]
              intro e
              simp only [Option.some.injEq, Value.pointer.injEq, Addr.mk.injEq] at e
              omega
            · by_cases hyx' : y' = x
              · subst hyx'
                obtain ⟨bk, _, h2, h3⟩ := other y hy hyy p
                rw [tx, ty _ (dne y hy y' hx hyy), h3]
                intro e
                simp only [Option.some.injEq, Value.pointer.injEq, Addr.mk.injEq] at e
                omega
              · rw [ty _ (dne y hy x hx hyx), ty _ (dne y' hy' x hx hyx')]
                rw [hon] at p q
                simp only [if_neg (fne y hy x hx hyx), if_neg (fne y' hy' x hx hyx')] at p q
                exact hne y hy y' hy' hyy p q
          · rw [ty k (fun e => hk (e ▸ List.mem_map.2 ⟨x, hx, rfl⟩))]; exact hag k hk
        · by_cases hiS : ∃ x ∈ ls, i = x.s
          · -- its first value
            obtain ⟨x, hx, rfl⟩ := hiS
            obtain ⟨ti, z, hti, hz, hzl, hxn⟩ := hty x hx
            obtain ⟨oS, y, hS, hSd, hSop, hSg, e, he, heb, heo⟩ := (hA.one x hx).st
            rw [hS] at ho; cases ho
            have hfon : isOn listed x.f = true := by rw [← heo]; exact hedges e he heb
            obtain ⟨bk, row, pd, hb0, htm, hrs, _⟩ := (hl x hx).made hfon
            have hl1 : lop o = { o with dst := some x.d, op := .move y } := by unfold lop; rw [hSop]
            have hvb : b = true := by
              rcases hguard with ⟨_, hb⟩ | ⟨j, want, c, hg, _⟩
              · exact hb
              · rw [lop_guard, hSg] at hg; cases hg
            have hev : ev ρ y = some v := by
              have hq := hvρ hvb
              rw [hl1] at hq
              simp only [valOp, qOp, pureOp] at hq
              cases q : ev ρ y with
              | none => rw [q] at hq; simp at hq
              | some v' => rw [q] at hq; simpa using hq
            obtain ⟨kx, hkx⟩ := List.mem_iff_getElem?.1 hx
            obtain ⟨v', cs, hvv, hcs1, _, hcs2⟩ := hcs kx x hkx
            rw [hv] at hvv; cases hvv
            obtain ⟨c1, c2⟩ := (fr.ev hev).cells hcs1
            have hcl : (a.eval y).cells.size = cs.length := by have := c1.1; simpa using this
            have hrow' : (row.toList.take 0 ++ (a.eval y).cells.toList ++ row.toList.drop (0 + (a.eval y).cells.toList.length)).toArray = (a.eval y).cells := by
              have : row.toList.drop (0 + (a.eval y).cells.toList.length) = [] := List.drop_eq_nil_of_le (by simp; omega)
              rw [this]; simp
            have hrun := run_storeAt' (P := P) (w := w) hti pd.row (off := 0) c2 (by omega) (by omega)
            rw [hrow'] at hrun
            obtain ⟨k1, k2⟩ := pd.set hh.st hb0 (a.eval y).cells
            have hd1 : a.eval (.tmp x.d) = .pointer (some ⟨bk, 0, none⟩) := by
              simp only [Act.eval, Array.getD_eq_getD_getElem?, htm, Option.getD_some]
            have hput := Half.put (g' := g) (w' := w) hs hh hc hltL his ho1 hoff hv (fr.ev hev) (.refl hh.st.hp)
            rw [hl1] at hput
            unfold wpOp
            simp only [hS, Region.wanted, hSg, if_true]
            refine .inl ?_
            unfold Oper.wp
            rw [show (execOp a.eval o).run P w = .ok .skip (w.setRow bk (a.eval y).cells) by
              simp only [execOp, hSop, hd1, Sem.run_bind, hrun, Result.andThen_ok, Sem.run_pure]]
            show wpAny P .any ops Q fuel (listed.setIfInBounds x.s true) (a.put o.dst undef) _
            rw [hSd]
            show wpAny P .any ops Q fuel (listed.setIfInBounds x.s true) a _
            have hput' : Half (ops.map lop) ops.size σ ws g0 h0 w0 (fun j => if j = x.s then true else isOn listed j) g (w.setRow bk (a.eval y).cells) (a1.put (some x.d) (a.eval y)) :=
              ⟨k1, hput.nt, hput.defers, hput.wrt, hput.old⟩
            refine ih _ fuel g _ a _ (by simpa using hsz) hc' hm' (by omega) (by rw [hon]; exact hput') (fun y' hy => ?_) (fun y' hy' y'' hy'' hyy p q => ?_) (by simp [Act.put, hts]) hdf (fun k hk => ?_)
            · by_cases hyx : y' = x
              · subst hyx
                refine ⟨fun _ => ⟨bk, _, k2, hb0, htm, by omega, fun _ => ⟨v, cs, hv, hcs1, c1, c2⟩⟩, fun q => ?_⟩
                rw [hon]; simp only [if_neg (hA.fs y' hx y' hx)]; exact hfon
              · refine ⟨fun q => ?_, fun q => ?_⟩
                · rw [hon] at q
                  simp only [if_neg (hA.fs y' hy x hx)] at q
                  obtain ⟨bk2, row2, pd2, q1, q2, q3, q4⟩ := (hl y' hy).made q
                  have hbb : bk2 ≠ bk := fun e => by
                    subst e
                    exact hne x hx y' hy (Ne.symm hyx) hfon q (by rw [htm, q2])
                  refine ⟨bk2, row2, pd2.other hbb _, q1, q2, q3, fun q5 => ?_⟩
                  rw [hon] at q5
                  simp only [if_neg (sne y' hy x hx hyx)] at q5
                  exact q4 q5
                · rw [hon] at q ⊢
                  simp only [if_neg (sne y' hy x hx hyx), if_neg (hA.fs y' hy x hx)] at q ⊢
                  exact (hl y' hy).late q
            · rw [hon] at p q
              simp only [if_neg (hA.fs y' hy' x hx), if_neg (hA.fs y'' hy'' x hx)] at p q
              exact hne y' hy' y'' hy'' hyy p q
            · have hkx : k ≠ x.d := fun e => hk (e ▸ List.mem_map.2 ⟨x, hx, rfl⟩)
              simp only [Act.put, Array.getElem?_setIfInBounds_ne (Ne.symm hkx)]; exact hag k hk
          · obtain ⟨hlo, hnd⟩ := hA.other i o (fun x hx => ⟨fun e => hif ⟨x, hx, e⟩, fun e => hiS ⟨x, hx, e⟩⟩) ho
            rw [hlo] at look hguard hval ho1 hvρ
            have hwant : Region.wanted o (yielded ops a.tmps) = b := by
              rcases hguard with ⟨hg, rfl⟩ | ⟨j, want, c, hg, hbit, rfl⟩
              · simp [Region.wanted, hg]
              · have : (yielded ops a.tmps j == some want) = (c == want) := by
                  unfold guardBit at hbit
                  split at hbit
                  · rename_i dj hdj
                    have hmem : dj ∈ Ab.looks (ops.map lop) o := by simp only [Ab.looks, hg, List.mem_append]; exact .inr (by rw [hdj]; simp)
                    have hdj' : (ops[j]?).bind (·.dst) = some dj := by
                      obtain ⟨oj, hoj, hoj2⟩ := Option.bind_eq_some_iff.1 hdj
                      obtain ⟨oj', h1, rfl⟩ := map_get hoj
                      by_cases hjf : ∃ x ∈ ls, j = x.f
                      · obtain ⟨x, hx, rfl⟩ := hjf
                        obtain ⟨oA, hoA, hAd, hAop, hAg⟩ := (hA.one x hx).al
                        rw [hoA] at h1; cases h1
                        simp [lop, hAop] at hoj2
                      · by_cases hjs : ∃ x ∈ ls, j = x.s
                        · obtain ⟨x, hx, rfl⟩ := hjs
                          obtain ⟨oS, y, hS, hSd, hSop, hSg, _⟩ := (hA.one x hx).st
                          rw [hS] at h1; cases h1
                          simp [lop, hSop] at hoj2
                          subst hoj2
                          exact (hA.look i o ho x hx (by rw [hlo]; exact hmem)).elim
                        · obtain ⟨q1, _⟩ := hA.other j oj' (fun x hx => ⟨fun e => hjf ⟨x, hx, e⟩, fun e => hjs ⟨x, hx, e⟩⟩) h1
                          rw [q1] at hoj2
                          rw [h1]; exact hoj2
                    split at hbit
                    · rename_i b' hl'
                      cases hbit
                      obtain ⟨u, e1, e2⟩ := look dj hmem _ hl'
                      have := (Rep.of_lit e2).1
                      subst this
                      simp [yielded, hdj', e1]
                    · rename_i hl'
                      cases hbit
                      obtain ⟨u, e1, e2⟩ := look dj hmem _ hl'
                      cases e2
                      simp [yielded, hdj', e1]
                    · cases hbit
                  · cases hbit
                simp [Region.wanted, hg, this]
            have keepd : ∀ x ∈ ls, ∀ {u : Value}, (a.put o.dst u).tmps[x.d]? = a.tmps[x.d]? := fun x hx {u} => by
              have hx' := hnd x hx
              cases hod : o.dst with
              | none => rfl
              | some dk =>
                have : dk ≠ x.d := fun q => hx' (by rw [hod, q])
                simp only [Act.put, Array.getElem?_setIfInBounds_ne this]
            have nif : ∀ x ∈ ls, x.f ≠ i := fun x hx e => hif ⟨x, hx, e.symm⟩
            have nis : ∀ x ∈ ls, x.s ≠ i := fun x hx e => hiS ⟨x, hx, e.symm⟩
            have next : ∀ u g' w', Rep g' u v → Step1 g σ.hp w g' σ.hp w' → wpAny P .any ops Q fuel (listed.setIfInBounds i true) (a.put o.dst u) w' := by
              intro u g' w' hu st
              have hput := hh.put hs hc hltL his ho1 hoff hv hu st
              refine ih _ fuel g' w' _ (a1.put o.dst u) (by simpa using hsz) hc' hm' (by omega) (by rw [hon]; exact hput) (fun x hx => ⟨fun q => ?_, fun q => ?_⟩) (fun x hx y hy hxy p q => ?_) (by cases o.dst <;> simp [Act.put, hts]) (by cases o.dst <;> simp [Act.put, hdf]) (fun k hk => ?_)
              · rw [hon] at q
                simp only [if_neg (nif x hx)] at q
                obtain ⟨bk, row, pd, q1, q2, q3, q4⟩ := (hl x hx).made q
                refine ⟨bk, row, pd.step st, q1, (keepd x hx).trans q2, q3, fun q5 => ?_⟩
                rw [hon] at q5
                simp only [if_neg (nis x hx)] at q5
                obtain ⟨v', cs', r1, r2, r3, r4⟩ := q4 q5
                exact ⟨v', cs', r1, r2, r3.mono st.ext, r4⟩
              · rw [hon] at q ⊢
                simp only [if_neg (nis x hx), if_neg (nif x hx)] at q ⊢
                exact (hl x hx).late q
              · rw [hon] at p q
                simp only [if_neg (nif x hx), if_neg (nif y hy)] at p q
                rw [keepd x hx, keepd y hy]
                exact hne x hx y hy hxy p q
              · cases hod : o.dst with
                | none => exact hag k hk
                | some dk =>
                  by_cases hkd : dk = k
                  · subst hkd
                    have h1 : a.tmps.size = a1.tmps.size := hts
                    simp only [Act.put]
                    rw [Array.getElem?_setIfInBounds_self, Array.getElem?_setIfInBounds_self, h1]
                  · simp only [Act.put, Array.getElem?_setIfInBounds_ne hkd]; exact hag k hk
            unfold wpOp
            simp only [ho]
            cases b with
            | true =>
              rw [if_pos hwant]
              refine .inl ?_
              exact valOp_sound fr (hvρ rfl) next
            | false =>
              rw [if_neg (by rw [hwant]; simp)]
              have := hskip rfl
              subst this
              exact next undef g w (Rep.tup (cs := #[]) (as := []) rfl (by simp)) (.refl hh.st.hp)

/-- A REGION OF WHICH THE EFFECT IS SOME NEW VARIABLES WITH THEIR FIRST VALUES. Behind it the walk goes on from one state. -/
theorem aw_letN {Q : Exit → St → Prop} {σ' : St} {n : Nat} (N : Nat) {id : Nat} {l : List Oper} (ls : List LV) (hty : ∀ x ∈ ls, ∃ ti z, tyOf P x.t = some ti ∧ ti.zero = some z ∧ z.length = ti.size ∧ x.n = ti.size)
    (hsd : ∀ x ∈ ls, lk σ.slots x.d = none) (hn : σ.nt = n)
    (hB : statB (l.map lop).toArray n l.length = true) (hA : statLN l.toArray n ls = true) (hm : P.follows .mixedOrders = true)
    (h : qwl P (l.map lop).toArray (l.map lop) (afterLN ls N fun σ2 => St.cp N σ2 σ') σ) (k : Q .normal σ') : Aw P (.region id l.toArray true) Q σ := by
  intro g0 h0 w0 g w a r
  obtain ⟨ws, tr, hK⟩ := qwl_trace _ σ h
  have hmap : l.toArray.map lop = (l.map lop).toArray := by simp
  have hB' : statB (l.map lop).toArray σ.nt l.length = true := by rw [hn]; exact hB
  have hA' := StatLN.of (show statLN l.toArray σ.nt ls = true by rw [hn]; exact hA)
  have hs : Stat (l.toArray.map lop) σ.nt l.toArray.size := by rw [hmap]; exact Stat.of_B hB'
  refine wp_region_any hm ?_
  have off : ∀ j, isOn (Array.replicate l.toArray.size false) j = false := fun j => by
    unfold isOn
    simp only [Array.getD_eq_getD_getElem?, Array.getElem?_replicate]
    split <;> rfl
  have hl1 : (l.toArray.map lop).toList = l.map lop := by simp
  have hdst : ∀ x ∈ ls, ∀ j oj, (l.toArray.map lop)[j]? = some oj → j ≠ x.s → oj.dst ≠ some x.d := fun x hx j oj hj hjs => by
    obtain ⟨o, ho, rfl⟩ := map_get hj
    by_cases hjf : ∃ y ∈ ls, j = y.f
    · obtain ⟨y, hy, rfl⟩ := hjf
      obtain ⟨o', ho', h1, h2, h3⟩ := (hA'.one y hy).al
      rw [ho] at ho'; cases ho'
      simp [lop, h2]
    · by_cases hjS : ∃ y ∈ ls, j = y.s
      · obtain ⟨y, hy, rfl⟩ := hjS
        obtain ⟨o', y', ho', h1, h2, h3, _⟩ := (hA'.one y hy).st
        rw [ho] at ho'; cases ho'
        have : y.d ≠ x.d := fun e => hjs (by rw [nodup_inj hA'.nd hy hx e])
        simp [lop, h2, this]
      · obtain ⟨h1, h2⟩ := hA'.other j o (fun y hy => ⟨fun e => hjf ⟨y, hy, e⟩, fun e => hjS ⟨y, hy, e⟩⟩) ho
        rw [h1]; exact h2 x hx
  have val : ∀ x ∈ ls, ∀ v, lk (stAt σ (((l.map lop).map (·.dst)).zip ws)).slots x.d = some v → ws[x.s]? = some v := fun x hx v e1 => by
    rcases lk_stAt (nt := σ.nt) _ σ x.d v rfl (fun k d w' q => by
      have q' := items_get (i := k) (m := k + 1) (by rw [List.getElem?_take, if_pos (by omega)]; exact q)
      obtain ⟨_, o1, q2, q3, _⟩ := q'
      have q2' : (l.toArray.map lop)[k]? = some o1 := by rw [← hl1] at q2; simpa using q2
      have := (Array.getElem?_eq_some_iff.1 q2').1
      exact hs.bound k o1 d (by simpa using this) q2' q3) e1 with ⟨j, h1, h2⟩ | ⟨h1, h2⟩
    · have q' := items_get (i := j) (m := j + 1) (by rw [List.getElem?_take, if_pos (by omega)]; exact h1)
      obtain ⟨_, oj, q1, q2, q3⟩ := q'
      have q1' : (l.toArray.map lop)[j]? = some oj := by rw [← hl1] at q1; simpa using q1
      by_cases hjs : j = x.s
      · rw [← hjs]; exact q3
      · exact (hdst x hx j oj q1' hjs q2).elim
    · rw [hsd x hx] at h2; cases h2
  unfold afterLN at hK
  obtain ⟨hNN, hK⟩ := hK
  rw [(stAt_hp _ σ).1] at hNN
  obtain ⟨css, c1, c2, c3⟩ := goL_told hK
  have hg : g0.nx ≤ N := by
    have h1 : g0.nx ≤ g.nx := r.st.ext.nx
    have h2 := r.st.hp.nx
    rw [h2] at h1; omega
  refine quiet_letN (Q := Post g0 h0 w0 Q) hty hs hA' (by rw [hl1, hmap]; exact tr) c1 (fun k x e => ?_) (fun g w a fr => ?_) _ _ _ g _ a a (by simp) (fun i j _ hj => by rw [off] at hj; cases hj) (Nat.le_refl _) (by
      refine Nat.le_trans (List.length_filter_le _ _) ?_
      simp) ⟨⟨r.st.hp.drew, r.st.ext, r.st.keeps.trans (Keeps.drew (Live g σ.hp) w) r.st.live, r.st.live, r.st.memo⟩, r.nt, r.defers, fun j o v s hL => (by rw [off] at hL; cases hL), fun s v _ e => r.slots s v e⟩ (fun x hx => ⟨fun q => (by rw [off] at q; cases q), fun q => (by rw [off] at q; cases q)⟩) (fun x hx y hy _ q => by rw [off] at q; cases q) rfl r.defers (fun _ _ => rfl)
  · obtain ⟨v, c, e1, e2, e3, e4⟩ := c2 k x e
    exact ⟨v, c, val x (List.mem_of_getElem? e) v e1, e2, e3, e4⟩
  · rw [hl1] at fr
    obtain ⟨g2, fr2⟩ := c3 g0 h0 w0 g w a hg fr
    exact ⟨σ', g2, k, fr2⟩
end
end Go.Ab
