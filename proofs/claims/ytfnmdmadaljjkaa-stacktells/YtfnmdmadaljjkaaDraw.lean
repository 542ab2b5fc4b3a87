/- Regions that draw their order: operations that change nothing come to the same in whatever order; what stands behind them all is walked in each order. Conditions: those that each theorem names. -/
import Derived.Test.YtfnmdmadaljjkaaCall
import Derived.Orders
set_option linter.unusedVariables false
set_option linter.unusedSimpArgs false
namespace Go.Ab

/-- A call that leaves the heap as it is. -/
def QCall (P : Program) (f : FuncId) (args : List AV) (h : Hp) (v : AV) : Prop := SCall P f args h fun r h' => r = v ∧ h' = h

def qOp (P : Program) (σ : St) (op : Op) : Option AV :=
  match pureOp P σ op with
  | some v => some v
  | none => match op with
    | .buildSlice t n p => match heapOp P σ (.buildSlice t n p) with
      | some (some v, _) => some v
      | _ => none
    | .box _ x => ((ev σ x).bind AV.cells).map fun cs => .pp cs 0
    | _ => none

/-- The one value of an operation that changes nothing. -/
def valOp (P : Program) (σ : St) (o : Oper) (v : AV) : Prop :=
  match o.op with
  | .pick c x y => ∃ b, (ev σ c).bind boolOf = some b ∧ (bif b then ev σ x else ev σ y) = some v
  | .call ⟨.value f, args, _⟩ => ∃ q as, pairO ((ev σ f).bind fnOf) (evL σ args.toList) = some (q, as) ∧ Callable P q.1 ∧ QCall P q.1 (q.2.1 ++ as ++ q.2.2) σ.hp v
  | op => qOp P σ op = some v

theorem evL_congr {σ σ' : St} : ∀ {l : List Operand}, (∀ x ∈ l, ev σ x = ev σ' x) → evL σ l = evL σ' l
  | [], _ => rfl
  | x :: l, h => by simp only [evL, h x (by simp), evL_congr (l := l) (fun y hy => h y (by simp [hy]))]
theorem evP_congr {σ σ' : St} : ∀ {l : List (Nat × Operand)}, (∀ x ∈ l, ev σ x.2 = ev σ' x.2) → evP σ l = evP σ' l
  | [], _ => rfl
  | (i, x) :: l, h => by simp only [evP, h (i, x) (by simp), evP_congr (l := l) (fun y hy => h y (by simp [hy]))]
theorem evO_congr {σ σ' : St} {x : Option Operand} (h : ∀ y, x = some y → ev σ y = ev σ' y) : evO σ x = evO σ' x := by
  cases x with
  | none => rfl
  | some y => simp only [evO, h y rfl]

theorem pureOp_congr {P : Program} {σ σ' : St} {op : Op} (hp : σ.hp = σ'.hp) (h : ∀ x ∈ op.operands, ev σ x = ev σ' x) : pureOp P σ op = pureOp P σ' op := by
  cases op with
  | move x => exact h x (by simp [Op.operands])
  | assign x => exact h x (by simp [Op.operands])
  | build t ps =>
    have : evP σ ps.toList = evP σ' ps.toList := evP_congr fun p hp' => h p.2 (by simp [Op.operands]; exact ⟨p.1, by simpa using hp'⟩)
    simp only [pureOp, this]
  | load t x => simp only [pureOp, h x (by simp [Op.operands]), hp]
  | nilCheck x => simp only [pureOp, h x (by simp [Op.operands])]
  | binOp o t x y t' => simp only [pureOp, h x (by simp [Op.operands]), h y (by simp [Op.operands])]
  | unOp o t x => simp only [pureOp, h x (by simp [Op.operands])]
  | convert s d x => simp only [pureOp, h x (by simp [Op.operands])]
  | makeFunc f a b =>
    have h1 : evL σ a.toList = evL σ' a.toList := evL_congr fun y hy => h y (by simp [Op.operands]; exact .inl (by simpa using hy))
    have h2 : evL σ b.toList = evL σ' b.toList := evL_congr fun y hy => h y (by simp [Op.operands]; exact .inr (by simpa using hy))
    simp only [pureOp, h1, h2]
  | fieldAddr s x f => simp only [pureOp, h x (by simp [Op.operands])]
  | field s x f => simp only [pureOp, h x (by simp [Op.operands])]
  | indexAddr t x i => simp only [pureOp, h x (by simp [Op.operands]), h i (by simp [Op.operands]), hp]
  | index t x i => simp only [pureOp, h x (by simp [Op.operands]), h i (by simp [Op.operands])]
  | slice t x lo hi mx =>
    have h1 : evO σ lo = evO σ' lo := evO_congr fun y hy => h y (by simp [Op.operands, hy])
    have h2 : evO σ hi = evO σ' hi := evO_congr fun y hy => h y (by simp [Op.operands, hy])
    have h3 : evO σ mx = evO σ' mx := evO_congr fun y hy => h y (by simp [Op.operands, hy])
    simp only [pureOp, h x (by simp [Op.operands]), h1, h2, h3]
  | extract x i => simp only [pureOp, h x (by simp [Op.operands])]
  | call c =>
    have h1 : evL σ c.args.toList = evL σ' c.args.toList := evL_congr fun y hy => h y (by
      simp only [Op.operands, Call.operands, Array.mem_append]; exact .inr (by simpa using hy))
    simp only [pureOp, h1]
  | _ => rfl

theorem qOp_congr {P : Program} {σ σ' : St} {op : Op} (hp : σ.hp = σ'.hp) (h : ∀ x ∈ op.operands, ev σ x = ev σ' x) : qOp P σ op = qOp P σ' op := by
  unfold qOp
  rw [pureOp_congr hp h]
  cases pureOp P σ' op with
  | some v => rfl
  | none =>
    cases op with
    | buildSlice t n ps =>
      have : evP σ ps.toList = evP σ' ps.toList := evP_congr fun p hp' => h p.2 (by simp [Op.operands]; exact ⟨p.1, by simpa using hp'⟩)
      simp only [heapOp, this, hp]
    | box t x => simp only [h x (by simp [Op.operands])]
    | _ => rfl

theorem valOp_congr {P : Program} {σ σ' : St} {o : Oper} {v : AV} (hp : σ.hp = σ'.hp) (h : ∀ x ∈ o.op.operands, ev σ x = ev σ' x) (k : valOp P σ o v) : valOp P σ' o v := by
  unfold valOp at *
  split at k
  · rename_i c x y ho
    rw [ho] at h
    simp only [h c (by simp [Op.operands]), h x (by simp [Op.operands]), h y (by simp [Op.operands])] at k
    exact k
  · rename_i f args tys ho
    rw [ho] at h
    have h1 : evL σ args.toList = evL σ' args.toList := evL_congr fun y hy => h y (by simp only [Op.operands, Call.operands, Array.mem_append]; exact .inr (by simpa using hy))
    have h2 : ev σ f = ev σ' f := h f (by simp [Op.operands, Call.operands])
    rw [h1, h2, hp] at k
    exact k
  · rw [qOp_congr hp h] at k; exact k

section
variable {P : Program} {g0 : Gh} {h0 : Hp} {w0 : World} {σ : St} {g : Gh} {w : World} {a : Act} {o : Oper}

theorem buildSlice_same {t : TypeId} {n : Nat} {p : Array (Nat × Operand)} {v : Option AV} {h' : Hp} (h : heapOp P σ (.buildSlice t n p) = some (v, h')) : h' = σ.hp := by
  simp only [heapOp] at h
  repeat' (split at h)
  all_goals first | (cases h; done) | (cases h; rfl)

theorem valOp_sound (r : FRel g0 h0 w0 σ g w a) {v : AV} (h : valOp P σ o v) {next : Act → World → Prop} {Q : Exit → Act → World → Prop}
    (hn : ∀ u g' w', Rep g' u v → Step1 g σ.hp w g' σ.hp w' → next (a.put o.dst u) w') : o.wp P a w next Q := by
  unfold valOp at h
  split at h
  · rename_i c x y ho
    obtain ⟨b, hb, hv⟩ := h
    obtain ⟨cv, hc, hcv⟩ := Option.bind_eq_some_iff.1 hb
    have := boolOf_some hcv; subst this
    have hcv := (Rep.of_lit (r.ev hc)).1
    unfold Oper.wp
    cases b with
    | true =>
      simp only [execOp, ho, hcv, asBool, Sem.run_bind, Sem.run_pure, Result.andThen_ok, if_true]
      exact hn _ g w (r.ev hv) (.refl r.st.hp)
    | false =>
      simp only [execOp, ho, hcv, asBool, Sem.run_bind, Sem.run_pure, Result.andThen_ok]
      exact hn _ g w (r.ev hv) (.refl r.st.hp)
  · rename_i f args tys ho
    obtain ⟨q, as, hpq, ⟨fn, k1, k2, k3⟩, hc⟩ := h
    unfold pairO at hpq
    split at hpq
    · rename_i q' as' hf ha
      cases hpq
      obtain ⟨fv, h1, h2⟩ := Option.bind_eq_some_iff.1 hf
      obtain ⟨id, first, cap⟩ := q
      have := fnOf_some h2; subst this
      have hv := r.ev h1
      have hl := r.evL ha
      generalize hu : a.eval f = u at hv
      cases hv with
      | fn p1 p2 p3 p4 =>
        rename_i fs cs
        have hargs : RepL g (fs ++ args.map a.eval ++ cs).toList (first ++ as ++ cap) := by
          simp only [Array.toList_append, Array.toList_map]
          exact (RepL.append (RepL.append ⟨p1, p2⟩ hl) ⟨p3, p4⟩)
        have hrun : (execOp a.eval o).run P w = .ok (.enter id (fs ++ args.map a.eval ++ cs)) w := by
          simp only at k1 k2 k3
          simp only [execOp, ho, Sem.run_bind, resolve, hu, Deferred.ofValue, Sem.run_pure, Result.andThen_ok, invoke, callFunc, run_program, k1, k2, k3]
          simp
        unfold Oper.wp
        rw [hrun]
        refine (hc g w _ r.st.hp hargs).mono fun e w' hh => ?_
        obtain ⟨v', rr, h', g', he, hr, hs, rfl, rfl⟩ := hh
        subst he
        exact hn _ g' w' hr hs
    · cases hpq
  · unfold qOp at h
    split at h
    · rename_i v' hv
      cases h
      obtain ⟨u, e1, e2⟩ := pure_sound r hv
      unfold Oper.wp
      rw [e1]
      exact hn u g w e2 (.refl r.st.hp)
    · split at h
      · rename_i t n p ho
        split at h
        · rename_i v' h' hh
          cases h
          have hsame := buildSlice_same hh
          subst hsame
          rw [← ho] at hh
          obtain ⟨g', w', s, u, e1, e2⟩ := heap_sound r hh
          unfold Oper.wp
          rw [e1]
          exact hn u g' w' e2 s
        · cases h
      · rename_i t x ho
        obtain ⟨cs, hcs, rfl⟩ := Option.map_eq_some_iff.1 h
        obtain ⟨b, hx, hb⟩ := Option.bind_eq_some_iff.1 hcs
        obtain ⟨c1, c2⟩ := (r.ev hx).cells hb
        have st := Step1.newRow r.st.hp (a.eval x).cells t c2
        unfold Oper.wp
        rw [show (execOp a.eval o).run P w = .ok (.value (.pointer (some ⟨w.heap.size, 0, none⟩))) (w.alloc (.cells (a.eval x).cells t)) by simp [execOp, ho, Instr.box, newVar, newRow]]
        refine hn _ _ _ ?_ st
        have key : Rep (g.addRow w.heap.size (a.eval x).cells) (.pointer (some ⟨w.heap.size, 0 + 0, none⟩)) (.pp cs 0) := by
          refine .pp (fun j => (a.eval x).cells.toList.getD j (.bool false)) (fun j c hj => ?_) (fun j c hj => ?_)
          · have hlt : j < (a.eval x).cells.toList.length := by rw [c1.1]; exact (List.getElem?_eq_some_iff.1 hj).1
            have hlt2 : j < (a.eval x).cells.size := by simpa using hlt
            simp only [Gh.addRow, if_true, Nat.zero_add, List.getD_eq_getElem?_getD, Array.getElem?_toList]
            rw [Array.getElem?_eq_getElem hlt2]; rfl
          · have hlt : j < (a.eval x).cells.toList.length := by rw [c1.1]; exact (List.getElem?_eq_some_iff.1 hj).1
            have hv : (a.eval x).cells.toList[j]? = some ((a.eval x).cells.toList.getD j (.bool false)) := by rw [List.getD_eq_getElem?_getD, List.getElem?_eq_getElem hlt]; rfl
            exact (c1.2 j _ c hv hj).mono st.ext
        exact key
      · cases h
end

/-! The walk of such a list. -/
def CallQ (P : Program) (f : FuncId) (args : List AV) (σ : St) (d : Option Tmp) (K : St → Prop) : Prop := Callable P f ∧ ∃ v, QCall P f args σ.hp v ∧ K (σ.put d v)
theorem CallQ_intro {P : Program} {f : FuncId} {args : List AV} {σ : St} {d : Option Tmp} {K : St → Prop} {v : AV} (hc : Callable P f) (h : QCall P f args σ.hp v) (k : K (σ.put d v)) : CallQ P f args σ d K := ⟨hc, v, h, k⟩
theorem CallQ_pure {P : Program} {f : FuncId} {args : List AV} {σ : St} {d : Option Tmp} {K : St → Prop} {v : AV} (hc : Callable P f) (h : PCall P f args v) (ha : ∀ a ∈ args, Pure a) (hr : Pure v) (k : K (σ.put d v)) : CallQ P f args σ d K :=
  ⟨hc, v, SCall_pure h ha hr σ.hp, k⟩
def callQ (P : Program) (o : Oper) (x : Option ((FuncId × List AV × List AV) × List AV)) (K : St → Prop) (σ : St) : Prop :=
  match x with
  | some (q, as) => CallQ P q.1 (q.2.1 ++ as ++ q.2.2) σ o.dst K
  | none => False
theorem Xbr {P : Program} {o : Oper} {f : FuncId} {a as b : List AV} {K : St → Prop} {σ : St} : callQ P o (some ((f, a, b), as)) K σ = CallQ P f (a ++ as ++ b) σ o.dst K := rfl
def qwo (P : Program) (o : Oper) (K : St → Prop) (σ : St) : Prop :=
  match o.op with
  | .pick c x y => PickK ((ev σ c).bind boolOf) o.dst x y K σ
  | .call ⟨.value f, args, _⟩ => callQ P o (pairO ((ev σ f).bind fnOf) (evL σ args.toList)) K σ
  | op => pickV (qOp P σ op) o.dst K σ
def qwl (P : Program) (ops : Array Oper) : List Oper → (St → Prop) → St → Prop := gwl (qwo P) ops

theorem qwo_val {P : Program} {o : Oper} {K : St → Prop} {σ : St} (h : qwo P o K σ) : ∃ v, valOp P σ o v ∧ K (σ.put o.dst v) := by
  unfold qwo at h
  split at h
  · rename_i c x y ho
    cases hb : (ev σ c).bind boolOf with
    | none => rw [hb] at h; exact h.elim
    | some b =>
      rw [hb] at h
      have hs : SplitP b x y o.dst K σ := h
      cases b with
      | true => obtain ⟨v, e1, e2⟩ := pickV_elim (hs.1 rfl); exact ⟨v, by unfold valOp; rw [ho]; exact ⟨true, hb, e1⟩, e2⟩
      | false => obtain ⟨v, e1, e2⟩ := pickV_elim (hs.2 rfl); exact ⟨v, by unfold valOp; rw [ho]; exact ⟨false, hb, e1⟩, e2⟩
  · rename_i f args tys ho
    cases hq : pairO ((ev σ f).bind fnOf) (evL σ args.toList) with
    | none => rw [hq] at h; exact h.elim
    | some qa =>
      obtain ⟨q, as⟩ := qa
      rw [hq] at h
      obtain ⟨h1, v, h2, h3⟩ := h
      exact ⟨v, by unfold valOp; rw [ho]; exact ⟨q, as, hq, h1, h2⟩, h3⟩
  · rename_i h1 h2
    obtain ⟨v, e1, e2⟩ := pickV_elim h
    refine ⟨v, ?_, e2⟩
    unfold valOp
    split
    · rename_i c x y ho; exact (h1 c x y ho).elim
    · rename_i f args tys ho; exact (h2 f args tys ho).elim
    · exact e1

/-! Orders. -/
/-- What an operation looks at: its operands' slots, and its guard's. -/
def looks (ops : Array Oper) (o : Oper) : List Nat :=
  (o.op.operands.toList.filterMap fun | .tmp t => some t | _ => none) ++ (match o.guard with
    | some (j, _) => ((ops[j]?).bind (·.dst)).toList
    | none => [])

inductive Bef (ops : Array Oper) : Nat → Nat → Prop
  | edge {j : Nat} {o : Oper} {e : Edge} : ops[j]? = some o → e ∈ o.after.toList → Region.binds .any e = true → Bef ops e.on j
  | trans {i j k : Nat} : Bef ops i j → Bef ops j k → Bef ops i k

def predsOf (o : Oper) (acc : List (List Nat)) : List Nat := o.after.toList.flatMap fun e => if Region.binds .any e = true then e.on :: acc.getD e.on [] else []
def befs : List Oper → List (List Nat) → List (List Nat)
  | [], acc => acc
  | o :: l, acc => befs l (acc ++ [(predsOf o acc).eraseDups])

theorem befs_sound {ops : Array Oper} : ∀ (l : List Oper) (acc : List (List Nat)), ops.toList = ops.toList.take acc.length ++ l → acc.length + l.length = ops.size → (∀ j i, i ∈ acc.getD j [] → Bef ops i j) → ∀ j i, i ∈ (befs l acc).getD j [] → Bef ops i j
  | [], acc, _, _, h, j, i, hi => h j i hi
  | o :: l, acc, hl, hn, h, j, i, hi => by
    have ho : ops[acc.length]? = some o := by
      have hlt : acc.length < ops.size := by simp at hn; omega
      have hm : min acc.length ops.size = acc.length := by omega
      have : ops.toList[acc.length]? = some o := by rw [hl, List.getElem?_append_right (by simp; omega)]; simp [hm]
      simpa using this
    refine befs_sound l _ ?_ (by simp at hn ⊢; omega) ?_ j i hi
    · have hlt : acc.length < ops.toList.length := by simp at hn ⊢; omega
      simp only [List.length_append, List.length_cons, List.length_nil, Nat.zero_add]
      rw [List.take_add_one]
      have h2 : ops.toList[acc.length]? = some o := by simpa using ho
      rw [h2]
      simpa using hl
    · intro j i hi
      by_cases hj : j < acc.length
      · rw [List.getD_eq_getElem?_getD, List.getElem?_append_left hj, ← List.getD_eq_getElem?_getD] at hi; exact h j i hi
      · by_cases hj' : j = acc.length
        · subst hj'
          rw [List.getD_eq_getElem?_getD, List.getElem?_append_right (Nat.le_refl _), Nat.sub_self] at hi
          simp only [List.getElem?_cons_zero, Option.getD_some, List.mem_eraseDups] at hi
          simp only [predsOf, List.mem_flatMap] at hi
          obtain ⟨e, he, hi⟩ := hi
          split at hi
          · rename_i hb
            simp only [List.mem_cons] at hi
            rcases hi with rfl | hi
            · exact .edge ho he hb
            · exact .trans (h _ _ hi) (.edge ho he hb)
          · cases hi
        · rw [List.getD_eq_getElem?_getD, List.getElem?_eq_none (by simp; omega)] at hi; cases hi

/-- The look over a region: whoever names what another writes stands in an order with it; edges lead back; slots are there; the first p stand ahead of all others. -/
def statB (ops : Array Oper) (nt p : Nat) : Bool :=
  let B := befs ops.toList []
  let n := ops.size
  decide (p ≤ n) &&
  (List.range p).all fun j =>
    let o := ops.getD j default
    (o.after.toList.all fun e => !Region.binds .any e || decide (e.on < j)) &&
    (match o.dst with | some d => decide (d < nt) | none => true) &&
    (List.range j).all fun i =>
      let q := ops.getD i default
      (B.getD j []).contains i || !((match q.dst with | some d => (looks ops o).contains d || o.dst == some d | none => false) || (match o.dst with | some d => (looks ops q).contains d | none => false))
def statT (ops : Array Oper) (p : Nat) : Bool :=
  let B := befs ops.toList []
  (List.range ops.size).all fun j => decide (j < p) || (List.range p).all fun i => (B.getD j []).contains i

/-! The theorem: the first p operations, in whatever order. -/
section
variable {P : Program} {ops : Array Oper} {p : Nat} {σ : St}

structure Stat (ops : Array Oper) (nt p : Nat) : Prop where
  le : p ≤ ops.size
  back : ∀ j o e, j < p → ops[j]? = some o → e ∈ o.after.toList → Region.binds .any e = true → e.on < j
  bound : ∀ j o d, j < p → ops[j]? = some o → o.dst = some d → d < nt
  sep : ∀ i j q o, i < j → j < p → ops[i]? = some q → ops[j]? = some o → (∃ d, q.dst = some d ∧ (d ∈ looks ops o ∨ o.dst = some d)) ∨ (∃ d, o.dst = some d ∧ d ∈ looks ops q) → Bef ops i j

theorem Stat.of_B {nt : Nat} (h : statB ops nt p = true) : Stat ops nt p := by
  unfold statB at h
  simp only [Bool.and_eq_true, decide_eq_true_eq, List.all_eq_true, List.mem_range, Bool.or_eq_true, Bool.not_eq_true'] at h
  obtain ⟨h0, h1⟩ := h
  have getD : ∀ j o, ops[j]? = some o → ops.getD j default = o := fun j o e => by rw [Array.getD_eq_getD_getElem?, e]; rfl
  refine ⟨h0, fun j o e hj ho he hb => ?_, fun j o d hj ho hd => ?_, fun i j q o hij hj hq ho hc => ?_⟩
  · obtain ⟨⟨h2, _⟩, _⟩ := h1 j hj
    rw [getD j o ho] at h2
    rcases h2 e he with h3 | h3
    · rw [hb] at h3; cases h3
    · exact h3
  · obtain ⟨⟨_, h2⟩, _⟩ := h1 j hj
    rw [getD j o ho, hd] at h2
    simpa using h2
  · obtain ⟨_, h2⟩ := h1 j hj
    have h3 := h2 i hij
    rw [getD j o ho, getD i q hq] at h3
    have bef : (befs ops.toList []).getD j [] = (befs ops.toList []).getD j [] := rfl
    have sound := befs_sound (ops := ops) ops.toList [] (by simp) (by simp) (by simp)
    rcases h3 with h3 | h3
    · exact sound j i (by simpa using h3)
    · exfalso
      simp only [Bool.or_eq_false_iff] at h3
      rcases hc with ⟨d, e1, e2⟩ | ⟨d, e1, e2⟩
      · rw [e1] at h3
        rcases e2 with e2 | e2
        · have := h3.1; simp [e2] at this
        · have := h3.1; simp [e2] at this
      · rw [e1] at h3
        have := h3.2; simp [e2] at this

theorem statT_sound (h : statT ops p = true) {i j : Nat} (hi : i < p) (hj : p ≤ j) (hn : j < ops.size) : Bef ops i j := by
  unfold statT at h
  simp only [List.all_eq_true, List.mem_range, Bool.or_eq_true, decide_eq_true_eq] at h
  rcases h j hn with h1 | h1
  · omega
  · exact befs_sound (ops := ops) ops.toList [] (by simp) (by simp) (by simp) j i (by simpa using h1 i hi)

/-- The states of the walk in the order of the text. -/
def stAt (σ : St) : List (Option Tmp × AV) → St
  | [] => σ
  | (d, w) :: l => stAt (σ.put d w) l

theorem stAt_snoc : ∀ (l : List (Option Tmp × AV)) (σ : St) (d : Option Tmp) (w : AV), stAt σ (l ++ [(d, w)]) = (stAt σ l).put d w
  | [], _, _, _ => rfl
  | (d', w') :: l, σ, d, w => by simp only [List.cons_append, stAt, stAt_snoc l]
theorem put_hp (σ : St) (d : Option Tmp) (w : AV) : (σ.put d w).hp = σ.hp ∧ (σ.put d w).nt = σ.nt := by
  cases d with
  | none => exact ⟨rfl, rfl⟩
  | some d => simp only [St.put]; split <;> exact ⟨rfl, rfl⟩
theorem stAt_hp : ∀ (l : List (Option Tmp × AV)) (σ : St), (stAt σ l).hp = σ.hp ∧ (stAt σ l).nt = σ.nt
  | [], _ => ⟨rfl, rfl⟩
  | (d, w) :: l, σ => by
    obtain ⟨h1, h2⟩ := stAt_hp l (σ.put d w)
    obtain ⟨h3, h4⟩ := put_hp σ d w
    exact ⟨h1.trans h3, h2.trans h4⟩

/-- What a slot holds there: the last write, or what it held. -/
theorem lk_stAt {nt : Nat} : ∀ (l : List (Option Tmp × AV)) (σ : St) (s : Nat) (v : AV), σ.nt = nt → (∀ (i : Nat) (d : Nat) (w : AV), l[i]? = some (some d, w) → d < nt) → lk (stAt σ l).slots s = some v →
    (∃ j : Nat, l[j]? = some (some s, v) ∧ ∀ (k : Nat) (d : Option Tmp) (w : AV), j < k → l[k]? = some (d, w) → d ≠ some s) ∨ ((∀ (k : Nat) (d : Option Tmp) (w : AV), l[k]? = some (d, w) → d ≠ some s) ∧ lk σ.slots s = some v)
  | [], σ, s, v, _, _, h => .inr ⟨fun k d w e => by simp at e, h⟩
  | (d, w) :: l, σ, s, v, hnt, hb, h => by
    obtain ⟨_, h4⟩ := put_hp σ d w
    rcases lk_stAt l (σ.put d w) s v (h4.trans hnt) (fun i d' w' e => hb (i + 1) d' w' (by simpa using e)) h with ⟨j, h1, h2⟩ | ⟨h1, h2⟩
    · refine .inl ⟨j + 1, by simpa using h1, fun k d' w' hk e => ?_⟩
      match k, hk, e with
      | k + 1, hk, e => exact h2 k d' w' (by omega) (by simpa using e)
    · cases d with
      | none =>
        refine .inr ⟨fun k d' w' e => ?_, h2⟩
        match k, e with
        | 0, e => simp at e; rw [← e.1]; simp
        | k + 1, e => exact h1 k d' w' (by simpa using e)
      | some d =>
        have hd : d < nt := hb 0 d w rfl
        simp only [St.put, hnt, hd, if_true, lk] at h2
        by_cases hs : d = s
        · subst hs
          rw [if_pos rfl] at h2
          cases h2
          refine .inl ⟨0, rfl, fun k d' w' hk e => ?_⟩
          match k, hk, e with
          | k + 1, hk, e => exact h1 k d' w' (by simpa using e)
        · rw [if_neg hs] at h2
          refine .inr ⟨fun k d' w' e => ?_, h2⟩
          match k, e with
          | 0, e => simp at e; rw [← e.1]; simp; exact hs
          | k + 1, e => exact h1 k d' w' (by simpa using e)

/-- The walk's trace: of each operation its value; that of one that does not run is the empty tuple. -/
structure Trace (P : Program) (ops : Array Oper) (l : List Oper) (σ : St) (ws : List AV) : Prop where
  len : ws.length = l.length
  step : ∀ i o w, l[i]? = some o → ws[i]? = some w → ∃ b, (o.guard = none ∧ b = true ∨ ∃ j want c, o.guard = some (j, want) ∧ guardBit ops (stAt σ ((l.map (·.dst)).zip ws |>.take i)) j want = some c ∧ b = (c == want)) ∧
    (b = true → valOp P (stAt σ ((l.map (·.dst)).zip ws |>.take i)) o w) ∧ (b = false → w = .tup [])

theorem qwl_trace {K : St → Prop} : ∀ (l : List Oper) (σ : St), qwl P ops l K σ → ∃ ws, Trace P ops l σ ws ∧ K (stAt σ ((l.map (·.dst)).zip ws))
  | [], σ, h => ⟨[], ⟨rfl, fun i o w e => by simp at e⟩, h⟩
  | o :: l, σ, h => by
    have cons : ∀ (w : AV) (b : Bool), (o.guard = none ∧ b = true ∨ ∃ j want c, o.guard = some (j, want) ∧ guardBit ops σ j want = some c ∧ b = (c == want)) → (b = true → valOp P σ o w) → (b = false → w = .tup []) → qwl P ops l K (σ.put o.dst w) →
        ∃ ws, Trace P ops (o :: l) σ ws ∧ K (stAt σ (((o :: l).map (·.dst)).zip ws)) := by
      intro w b hg hv hw hk
      obtain ⟨ws, t, hK⟩ := qwl_trace l _ hk
      refine ⟨w :: ws, ⟨by simp [t.len], fun i o' w' e1 e2 => ?_⟩, hK⟩
      match i, e1, e2 with
      | 0, e1, e2 =>
        simp at e1 e2; subst e1; subst e2
        exact ⟨b, hg, hv, hw⟩
      | i + 1, e1, e2 => exact t.step i o' w' (by simpa using e1) (by simpa using e2)
    simp only [qwl, gwl] at h
    cases hg : o.guard with
    | none =>
      simp only [hg] at h
      obtain ⟨v, h1, h2⟩ := qwo_val h
      exact cons v true (.inl ⟨hg, rfl⟩) (fun _ => h1) (fun q => by cases q) h2
    | some jw =>
      obtain ⟨j, want⟩ := jw
      simp only [hg] at h
      cases hb : guardBit ops σ j want with
      | none => simp only [hb] at h
      | some c =>
        simp only [hb] at h
        by_cases hc : c = want
        · obtain ⟨v, h1, h2⟩ := qwo_val (h.1 hc)
          exact cons v true (.inr ⟨j, want, c, hg, hb, by simp [hc]⟩) (fun _ => h1) (fun q => by cases q) h2
        · have := h.2 (by cases c <;> cases want <;> simp_all)
          exact cons (.tup []) false (.inr ⟨j, want, c, hg, hb, by simp [hc]⟩) (fun q => by cases q) (fun _ => rfl) this

/-- What is known of the frame when just the operations of L have run. -/
structure Half (ops : Array Oper) (p : Nat) (σ : St) (ws : List AV) (g0 : Gh) (h0 : Hp) (w0 : World) (L : Nat → Bool) (g : Gh) (w : World) (a : Act) : Prop where
  st : Step1 g0 h0 w0 g σ.hp w
  nt : a.tmps.size = σ.nt
  defers : a.defers = []
  wrt : ∀ (j : Nat) (o : Oper) (v : AV) (s : Nat), L j = true → ops[j]? = some o → ws[j]? = some v → o.dst = some s → (∀ (k : Nat) (q : Oper), j < k → L k = true → ops[k]? = some q → q.dst ≠ some s) → ∃ u, a.tmps[s]? = some u ∧ Rep g u v
  old : ∀ s v, (∀ (j : Nat) (o : Oper), L j = true → ops[j]? = some o → o.dst ≠ some s) → lk σ.slots s = some v → ∃ u, a.tmps[s]? = some u ∧ Rep g u v

theorem Trace.at {l : List Oper} {ws : List AV} (t : Trace P ops l σ ws) {i : Nat} {o : Oper} (h : l[i]? = some o) : ∃ w, ws[i]? = some w := by
  have hi : i < ws.length := by rw [t.len]; exact (List.getElem?_eq_some_iff.1 h).1
  exact ⟨ws[i], List.getElem?_eq_getElem hi⟩

theorem items_get {l : List Oper} {ws : List AV} {i m : Nat} {d : Option Tmp} {w : AV} (h : (((l.map (·.dst)).zip ws).take m)[i]? = some (d, w)) : i < m ∧ ∃ o, l[i]? = some o ∧ o.dst = d ∧ ws[i]? = some w := by
  rw [List.getElem?_take] at h
  split at h
  · rename_i hi
    rw [List.getElem?_zip_eq_some] at h
    obtain ⟨h1, h2⟩ := h
    rw [List.getElem?_map, Option.map_eq_some_iff] at h1
    obtain ⟨o, h3, h4⟩ := h1
    exact ⟨hi, o, h3, h4, h2⟩
  · cases h

theorem items_of {l : List Oper} {ws : List AV} {i m : Nat} {o : Oper} {w : AV} (hi : i < m) (ho : l[i]? = some o) (hw : ws[i]? = some w) : (((l.map (·.dst)).zip ws).take m)[i]? = some (o.dst, w) := by
  rw [List.getElem?_take, if_pos hi, List.getElem?_zip_eq_some]
  exact ⟨by rw [List.getElem?_map, ho]; rfl, hw⟩

/-- L holds with each of its operations all that stands ahead of it. -/
def Closed (ops : Array Oper) (L : Nat → Bool) : Prop := ∀ i j, Bef ops i j → L j = true → L i = true

theorem take_get {i : Nat} {o : Oper} (h : (ops.toList.take p)[i]? = some o) : i < p ∧ ops[i]? = some o := by
  rw [List.getElem?_take] at h
  split at h
  · rename_i hi; exact ⟨hi, by simpa using h⟩
  · cases h
theorem get_take {i : Nat} {o : Oper} (hi : i < p) (h : ops[i]? = some o) : (ops.toList.take p)[i]? = some o := by
  rw [List.getElem?_take, if_pos hi]; simpa using h

variable {g0 : Gh} {h0 : Hp} {w0 : World}

/-- What an operation looks at is as in the walk. -/
theorem Half.looks {ws : List AV} {L : Nat → Bool} {g : Gh} {w : World} {a : Act} (hs : Stat ops σ.nt p) (t : Trace P ops (ops.toList.take p) σ ws) (hh : Half ops p σ ws g0 h0 w0 L g w a) (hc : Closed ops L) (hlt : ∀ j, L j = true → j < p)
    {i : Nat} {o : Oper} (hi : i < p) (ho : ops[i]? = some o) (hu : L i = false) (hr : ∀ k, Bef ops k i → L k = true) {s : Nat} (hl : s ∈ looks ops o) {v : AV}
    (e : lk (stAt σ ((((ops.toList.take p).map (·.dst)).zip ws).take i)).slots s = some v) : ∃ u, a.tmps[s]? = some u ∧ Rep g u v := by
  rcases lk_stAt (nt := σ.nt) _ σ s v rfl (fun k d w' q => by
    obtain ⟨_, q1, q2, q3, _⟩ := items_get q
    exact hs.bound k q1 d (take_get q2).1 (take_get q2).2 q3) e with ⟨j, h1, h2⟩ | ⟨h1, h2⟩
  · obtain ⟨hji, oj, q1, q2, q3⟩ := items_get h1
    obtain ⟨hjp, q1'⟩ := take_get q1
    refine hh.wrt j oj v s (hr j (hs.sep j i oj o hji hi q1' ho (.inl ⟨s, q2, .inl hl⟩))) q1' q3 q2 (fun k q hjk hLk hk hd => ?_)
    rcases Nat.lt_trichotomy k i with hki | hki | hki
    · obtain ⟨wk, hwk⟩ := t.at (get_take (by omega) hk)
      exact h2 k q.dst wk hjk (items_of hki (get_take (by omega) hk) hwk) hd
    · subst hki; rw [hu] at hLk; cases hLk
    · have := hc i k (hs.sep i k o q hki (hlt k hLk) ho hk (.inr ⟨s, hd, hl⟩)) hLk
      rw [hu] at this; cases this
  · refine hh.old s v (fun k q hLk hk hd => ?_) h2
    rcases Nat.lt_trichotomy k i with hki | hki | hki
    · obtain ⟨wk, hwk⟩ := t.at (get_take (by omega) hk)
      exact h1 k q.dst wk (items_of hki (get_take (by omega) hk) hwk) hd
    · subst hki; rw [hu] at hLk; cases hLk
    · have := hc i k (hs.sep i k o q hki (hlt k hLk) ho hk (.inr ⟨s, hd, hl⟩)) hLk
      rw [hu] at this; cases this

/-- One operation more has run. -/
theorem Half.put {ws : List AV} {L : Nat → Bool} {g g' : Gh} {w w' : World} {a : Act} (hs : Stat ops σ.nt p) (hh : Half ops p σ ws g0 h0 w0 L g w a) (hc : Closed ops L) (hlt : ∀ j, L j = true → j < p)
    {i : Nat} {o : Oper} (hi : i < p) (ho : ops[i]? = some o) (hu : L i = false) {v : AV} (hw : ws[i]? = some v) {u : Value} (hv : Rep g' u v) (st : Step1 g σ.hp w g' σ.hp w') :
    Half ops p σ ws g0 h0 w0 (fun j => if j = i then true else L j) g' w' (a.put o.dst u) := by
  have keep : ∀ s, o.dst ≠ some s → (a.put o.dst u).tmps[s]? = a.tmps[s]? := fun s hs' => by
    cases hd : o.dst with
    | none => rfl
    | some d =>
      have : d ≠ s := fun q => hs' (by rw [hd, q])
      simp only [Act.put, Array.getElem?_setIfInBounds_ne this]
  refine ⟨hh.st.trans st, by cases hd : o.dst <;> simp [Act.put, hh.nt], by cases hd : o.dst <;> simp [Act.put, hh.defers], fun j oj vj s hL hj hwj hd hlast => ?_, fun s v' hno e => ?_⟩
  · by_cases hji : j = i
    · subst hji
      rw [ho] at hj; cases hj
      rw [hw] at hwj; cases hwj
      refine ⟨u, ?_, hv⟩
      rw [hd]
      have hlt' : s < a.tmps.size := by rw [hh.nt]; exact hs.bound j o s hi ho hd
      simp [Act.put, hlt']
    · simp only [if_neg hji] at hL
      have hne : o.dst ≠ some s := fun hod => by
        rcases Nat.lt_or_gt_of_ne hji with hlt' | hgt
        · exact hlast i o hlt' (by simp) ho hod
        · have := hc i j (hs.sep i j o oj hgt (hlt j hL) ho hj (.inl ⟨s, hod, .inr hd⟩)) hL
          rw [hu] at this; cases this
      obtain ⟨u', e1, e2⟩ := hh.wrt j oj vj s hL hj hwj hd (fun k q hk hLk hq hqd => hlast k q hk (by by_cases hki : k = i <;> simp [hki, hLk]) hq hqd)
      exact ⟨u', (keep s hne).trans e1, e2.mono st.ext⟩
  · have hne : o.dst ≠ some s := hno i o (by simp) ho
    obtain ⟨u', e1, e2⟩ := hh.old s v' (fun j oj hL hj => hno j oj (by by_cases hji : j = i <;> simp [hji, hL]) hj) e
    exact ⟨u', (keep s hne).trans e1, e2.mono st.ext⟩

theorem filter_lt {α : Type} {f f' : α → Bool} : ∀ {l : List α}, (∀ x ∈ l, f' x = true → f x = true) → (∃ x ∈ l, f x = true ∧ f' x = false) → (l.filter f').length < (l.filter f).length
  | [], _, ⟨x, hx, _⟩ => by simp at hx
  | y :: l, h, ⟨x, hx, h1, h2⟩ => by
    have le : ∀ l : List α, (∀ x ∈ l, f' x = true → f x = true) → (l.filter f').length ≤ (l.filter f).length := by
      intro l hl
      induction l with
      | nil => simp
      | cons z l ih =>
        have := ih (fun x hx => hl x (by simp [hx]))
        have hz := hl z (by simp)
        cases q : f' z with
        | true => simp [List.filter_cons, q, hz q]; exact this
        | false => cases q2 : f z <;> simp [List.filter_cons, q, q2] <;> omega
    simp only [List.mem_cons] at hx
    rcases hx with rfl | hx
    · have := le l (fun x hx => h x (by simp [hx]))
      simp [List.filter_cons, h1, h2]; omega
    · have ih := filter_lt (l := l) (fun x hx => h x (by simp [hx])) ⟨x, hx, h1, h2⟩
      have hy := h y (by simp)
      cases q : f' y with
      | true => simp [List.filter_cons, q, hy q]; exact ih
      | false => cases q2 : f y <;> simp [List.filter_cons, q, q2] <;> omega

def isOn (listed : Array Bool) (j : Nat) : Bool := listed.getD j false

theorem ready_iff {listed : Array Bool} (hsz : listed.size = ops.size) {i : Nat} : i ∈ Region.ready .any ops listed ↔ ∃ o, ops[i]? = some o ∧ isOn listed i = false ∧ ∀ e ∈ o.after.toList, Region.binds .any e = true → isOn listed e.on = true := by
  unfold Region.ready isOn
  simp only [List.mem_filter, List.mem_range, Bool.and_eq_true, Bool.not_eq_true']
  constructor
  · rintro ⟨hi, h1, h2⟩
    have ho : ops[i]? = some ops[i] := Array.getElem?_eq_getElem hi
    rw [ho] at h2
    simp only [Option.map_some, Option.getD_some, Array.all_eq_true_iff_forall_mem, Bool.or_eq_true, Bool.not_eq_true'] at h2
    refine ⟨ops[i], ho, ?_, fun e he hb => ?_⟩
    · have hl : i < listed.size := by omega
      simp only [Array.getD_eq_getD_getElem?, Array.getElem?_eq_getElem hl, Option.getD_some] at h1 ⊢; exact h1
    · rcases h2 e (by simpa using he) with h3 | h3
      · rw [hb] at h3; cases h3
      · exact h3
  · rintro ⟨o, ho, h1, h2⟩
    have hi : i < ops.size := (Array.getElem?_eq_some_iff.1 ho).1
    refine ⟨hi, ?_, ?_⟩
    · have hl : i < listed.size := by omega
      simp only [Array.getD_eq_getD_getElem?, Array.getElem?_eq_getElem hl, Option.getD_some] at h1 ⊢; exact h1
    · rw [ho]
      simp only [Option.map_some, Option.getD_some, Array.all_eq_true_iff_forall_mem, Bool.or_eq_true, Bool.not_eq_true']
      intro e he
      cases hb : Region.binds .any e with
      | false => exact .inl rfl
      | true => exact .inr (h2 e (by simpa using he) hb)

theorem isOn_set {listed : Array Bool} {i : Nat} (hi : i < listed.size) (j : Nat) : isOn (listed.setIfInBounds i true) j = if j = i then true else isOn listed j := by
  unfold isOn
  simp only [Array.getD_eq_getD_getElem?]
  by_cases hji : j = i
  · subst hji; simp [hi]
  · rw [Array.getElem?_setIfInBounds_ne (fun q => hji q.symm), if_neg hji]

theorem bef_on {L : Nat → Bool} {i : Nat} {o : Oper} (hc : Closed ops L) (ho : ops[i]? = some o) (h : ∀ e ∈ o.after.toList, Region.binds .any e = true → L e.on = true) : ∀ k, Bef ops k i → L k = true := by
  intro k hk
  have key : ∀ k j, Bef ops k j → j = i → L k = true := by
    intro k j hb
    induction hb with
    | edge h1 h2 h3 => intro q; subst q; rw [ho] at h1; cases h1; exact h _ h2 h3
    | trans h1 h2 ih1 ih2 => intro q; exact hc _ _ h1 (ih2 q)
  exact key k i hk rfl

/-- THE FIRST p OPERATIONS IN WHATEVER ORDER. -/
theorem quiet_any {ws : List AV} {Q : Exit → Act → World → Prop} {rest : Nat} (hs : Stat ops σ.nt p) (ht : ∀ i j, i < p → p ≤ j → j < ops.size → Bef ops i j) (t : Trace P ops (ops.toList.take p) σ ws)
    (fin : ∀ g w a listed fuel, listed.size = ops.size → (∀ j, isOn listed j = decide (j < p)) → rest ≤ fuel → FRel g0 h0 w0 (stAt σ (((ops.toList.take p).map (·.dst)).zip ws)) g w a → wpAny P .any ops Q fuel listed a w) :
    ∀ (m : Nat) (listed : Array Bool) (fuel : Nat) (g : Gh) (w : World) (a : Act), listed.size = ops.size → (∀ j, isOn listed j = true → j < p) → Closed ops (isOn listed) →
      ((List.range p).filter fun j => !isOn listed j).length ≤ m → m + rest ≤ fuel → Half ops p σ ws g0 h0 w0 (isOn listed) g w a → wpAny P .any ops Q fuel listed a w := by
  intro m
  induction m with
  | zero =>
    intro listed fuel g w a hsz hlt hc hm hf hh
    have hall : ∀ j, j < p → isOn listed j = true := fun j hj => by
      cases q : isOn listed j with
      | true => rfl
      | false =>
        have : j ∈ (List.range p).filter fun j => !isOn listed j := by simp [hj, q]
        rw [List.eq_nil_of_length_eq_zero (Nat.le_zero.1 hm)] at this
        cases this
    have hon : ∀ j, isOn listed j = decide (j < p) := fun j => by
      by_cases hj : j < p
      · simp [hj, hall j hj]
      · cases q : isOn listed j with
        | true => exact absurd (hlt j q) hj
        | false => simp [hj]
    refine fin g w a listed fuel hsz hon (by omega) ⟨?_, fun s v e => ?_, ?_, hh.defers⟩
    · rw [(stAt_hp _ σ).1]; exact hh.st
    · rcases lk_stAt (nt := σ.nt) _ σ s v rfl (fun k d w' q => by
        have q' := items_get (i := k) (m := k + 1) (by rw [List.getElem?_take, if_pos (by omega)]; exact q)
        obtain ⟨_, o1, q2, q3, _⟩ := q'
        exact hs.bound k o1 d (take_get q2).1 (take_get q2).2 q3) e with ⟨j, h1, h2⟩ | ⟨h1, h2⟩
      · have q' := items_get (i := j) (m := j + 1) (by rw [List.getElem?_take, if_pos (by omega)]; exact h1)
        obtain ⟨_, oj, q1, q2, q3⟩ := q'
        obtain ⟨hjp, q1'⟩ := take_get q1
        refine hh.wrt j oj v s (hall j hjp) q1' q3 q2 (fun k q hjk hLk hk hd => ?_)
        have hkp := hlt k hLk
        obtain ⟨wk, hwk⟩ := t.at (get_take hkp hk)
        have := items_of (m := k + 1) (Nat.lt_succ_self k) (get_take hkp hk) hwk
        rw [List.getElem?_take, if_pos (by omega)] at this
        exact h2 k q.dst wk hjk this hd
      · refine hh.old s v (fun k q hLk hk hd => ?_) h2
        have hkp := hlt k hLk
        obtain ⟨wk, hwk⟩ := t.at (get_take hkp hk)
        have := items_of (m := k + 1) (Nat.lt_succ_self k) (get_take hkp hk) hwk
        rw [List.getElem?_take, if_pos (by omega)] at this
        exact h1 k q.dst wk this hd
    · rw [(stAt_hp _ σ).2]; exact hh.nt
  | succ m ih =>
    intro listed fuel g w a hsz hlt hc hm hf hh
    by_cases hz : ((List.range p).filter fun j => !isOn listed j).length ≤ m
    · exact ih listed fuel g w a hsz hlt hc hz (by omega) hh
    · -- one at least is open
      obtain ⟨fuel, rfl⟩ : ∃ f, fuel = f + 1 := ⟨fuel - 1, by omega⟩
      have hex : ∃ j, j < p ∧ isOn listed j = false := by
        cases q : (List.range p).filter fun j => !isOn listed j with
        | nil => rw [q] at hz; simp at hz
        | cons x l =>
          have : x ∈ (List.range p).filter fun j => !isOn listed j := by rw [q]; simp
          simp only [List.mem_filter, List.mem_range, Bool.not_eq_true'] at this
          exact ⟨x, this⟩
      refine ⟨fun hnil => ?_, fun i hi => ?_⟩
      · exfalso
        -- the least open one is ready
        have least : ∀ n, ∀ j, j ≤ n → j < p → isOn listed j = false → False := by
          intro n
          induction n using Nat.strongRecOn with
          | _ n ihn =>
            intro j hjn hj hoff
            have hjs : j < ops.size := Nat.lt_of_lt_of_le hj hs.le
            have hready : j ∈ Region.ready .any ops listed := (ready_iff hsz).2 ⟨ops[j], Array.getElem?_eq_getElem hjs, hoff, fun e he hb => by
              have hb' := hs.back j _ e hj (Array.getElem?_eq_getElem hjs) he hb
              cases q : isOn listed e.on with
              | true => rfl
              | false => exact (ihn (e.on) (by omega) e.on (Nat.le_refl _) (by omega) q).elim⟩
            rw [hnil] at hready; cases hready
        obtain ⟨j, hj, hoff⟩ := hex
        exact least j j (Nat.le_refl _) hj hoff
      · obtain ⟨o, ho, hoff, hedges⟩ := (ready_iff hsz).1 hi
        have his : i < ops.size := (Array.getElem?_eq_some_iff.1 ho).1
        have hr := bef_on hc ho hedges
        have hip : i < p := by
          rcases Nat.lt_or_ge i p with h1 | h1
          · exact h1
          · obtain ⟨j, hj, hjoff⟩ := hex
            have := hr j (ht j i hj h1 his)
            rw [hjoff] at this; cases this
        obtain ⟨v, hv⟩ := t.at (get_take hip ho)
        obtain ⟨b, hguard, hval, hskip⟩ := t.step i o v (get_take hip ho) hv
        have look : ∀ s ∈ Ab.looks ops o, ∀ v, lk (stAt σ ((((ops.toList.take p).map (·.dst)).zip ws).take i)).slots s = some v → ∃ u, a.tmps[s]? = some u ∧ Rep g u v :=
          fun s hs' v e => hh.looks hs t hc hlt hip ho hoff hr hs' e
        have hwant : Region.wanted o (yielded ops a.tmps) = b := by
          rcases hguard with ⟨hg, rfl⟩ | ⟨j, want, c, hg, hbit, rfl⟩
          · simp [Region.wanted, hg]
          · have : (yielded ops a.tmps j == some want) = (c == want) := by
              unfold guardBit at hbit
              split at hbit
              · rename_i d hd
                split at hbit
                · rename_i b' hl
                  cases hbit
                  have hmem : d ∈ Ab.looks ops o := by simp only [Ab.looks, hg, List.mem_append]; exact .inr (by rw [hd]; simp)
                  obtain ⟨u, e1, e2⟩ := look d hmem _ hl
                  have := (Rep.of_lit e2).1
                  subst this
                  simp [yielded, hd, e1]
                · rename_i hl
                  cases hbit
                  have hmem : d ∈ Ab.looks ops o := by simp only [Ab.looks, hg, List.mem_append]; exact .inr (by rw [hd]; simp)
                  obtain ⟨u, e1, e2⟩ := look d hmem _ hl
                  cases e2
                  simp [yielded, hd, e1]
                · cases hbit
              · cases hbit
            simp [Region.wanted, hg, this]
        have next : ∀ u g' w', Rep g' u v → Step1 g σ.hp w g' σ.hp w' → wpAny P .any ops Q fuel (listed.setIfInBounds i true) (a.put o.dst u) w' := by
          intro u g' w' hu st
          have hon : isOn (listed.setIfInBounds i true) = fun j => if j = i then true else isOn listed j := funext (isOn_set (by omega))
          refine ih _ fuel g' w' _ (by simpa using hsz) (fun j hj => ?_) ?_ ?_ (by omega) ?_
          · rw [hon] at hj
            by_cases hji : j = i
            · omega
            · simp only [if_neg hji] at hj; exact hlt j hj
          · rw [hon]
            intro k j hb hj
            by_cases hki : k = i
            · simp [hki]
            · simp only [if_neg hki]
              by_cases hji : j = i
              · subst hji; exact hr k hb
              · simp only [if_neg hji] at hj; exact hc k j hb hj
          · have := filter_lt (f := fun j => !isOn listed j) (f' := fun j => !isOn (listed.setIfInBounds i true) j) (l := List.range p) (fun x _ hx => by
              rw [hon] at hx
              by_cases hxi : x = i
              · simp [hxi] at hx
              · simpa [hxi] using hx) ⟨i, by simp [hip], by simp [hoff], by rw [hon]; simp⟩
            omega
          · rw [hon]
            exact hh.put hs hc hlt hip ho hoff hv hu st
        unfold wpOp
        simp only [ho]
        cases b with
        | true =>
          rw [if_pos hwant]
          refine .inl ?_
          -- the state with what is looked at alone
          let ρ : St := ⟨((Ab.looks ops o).filterMap fun s => (lk (stAt σ ((((ops.toList.take p).map (·.dst)).zip ws).take i)).slots s).map fun v => (s, v)), σ.hp, σ.nt⟩
          have lkρ : ∀ (l : List Nat) (f : Nat → Option AV) (s : Nat) (v : AV), lk (l.filterMap fun s => (f s).map fun v => (s, v)) s = some v → s ∈ l ∧ f s = some v := by
            intro l f
            induction l with
            | nil => intro s v e; cases e
            | cons x l ih =>
              intro s v e
              rw [List.filterMap_cons] at e
              cases q : f x with
              | none => simp only [q, Option.map_none] at e; obtain ⟨h1, h2⟩ := ih s v e; exact ⟨by simp [h1], h2⟩
              | some y =>
                simp only [q, Option.map_some, lk] at e
                split at e
                · rename_i hx; cases e; subst hx; exact ⟨by simp, q⟩
                · obtain ⟨h1, h2⟩ := ih s v e; exact ⟨by simp [h1], h2⟩
          have lkρ2 : ∀ (l : List Nat) (f : Nat → Option AV) (s : Nat), s ∈ l → lk (l.filterMap fun s => (f s).map fun v => (s, v)) s = f s := by
            intro l f
            induction l with
            | nil => intro s h; cases h
            | cons x l ih =>
              intro s hmem
              rw [List.filterMap_cons]
              by_cases hx : x = s
              · subst hx
                cases q : f x with
                | none =>
                  simp only [Option.map_none]
                  by_cases hm : x ∈ l
                  · rw [ih x hm, q]
                  · cases q2 : lk (l.filterMap fun s => (f s).map fun v => (s, v)) x with
                    | none => rfl
                    | some y => exact absurd (lkρ l f x y q2).1 hm
                | some y => simp [lk]
              · have hm : s ∈ l := by simp only [List.mem_cons] at hmem; rcases hmem with h1 | h1; exact absurd h1.symm hx; exact h1
                cases q : f x with
                | none => simp only [Option.map_none]; exact ih s hm
                | some y => simp only [Option.map_some, lk, if_neg hx]; exact ih s hm
          have fr : FRel g0 h0 w0 ρ g w a := ⟨hh.st, fun s v e => by
            obtain ⟨h1, h2⟩ := lkρ _ _ s v e
            exact look s h1 v h2, hh.nt, hh.defers⟩
          have hv' : valOp P ρ o v := valOp_congr (σ := stAt σ ((((ops.toList.take p).map (·.dst)).zip ws).take i)) (stAt_hp _ σ).1 (fun x hx => by
            cases x with
            | tmp s =>
              have hmem : s ∈ Ab.looks ops o := by
                simp only [Ab.looks, List.mem_append, List.mem_filterMap]
                exact .inl ⟨.tmp s, by simpa using hx, rfl⟩
              exact (lkρ2 _ (fun s => lk (stAt σ ((((ops.toList.take p).map (·.dst)).zip ws).take i)).slots s) s hmem).symm
            | const c => rfl
            | «global» q => rfl
            | func f => rfl) (hval rfl)
          exact valOp_sound fr hv' next
        | false =>
          rw [if_neg (by rw [hwant]; simp)]
          have := hskip rfl
          subst this
          exact next undef g w (Rep.tup (cs := #[]) (as := []) rfl (by simp)) (.refl hh.st.hp)

theorem qwl_region {Q : Exit → St → Prop} {rest : Nat} (hB : statB ops σ.nt p = true) (hT : statT ops p = true) (hm : P.follows .mixedOrders = true) {id : Nat} {K : St → Prop}
    (h : qwl P ops (ops.toList.take p) K σ)
    (fin : ∀ σ', K σ' → ∀ g0 h0 w0 g w a listed fuel, listed.size = ops.size → (∀ j, isOn listed j = decide (j < p)) → rest ≤ fuel → FRel g0 h0 w0 σ' g w a → wpAny P .any ops (Post g0 h0 w0 Q) fuel listed a w) (hrest : p + rest ≤ ops.size) :
    Aw P (.region id ops true) Q σ := by
  intro g0 h0 w0 g w a r
  obtain ⟨ws, t, hK⟩ := qwl_trace _ σ h
  have hs := Stat.of_B hB
  refine wp_region_any hm ?_
  have off : ∀ j, isOn (Array.replicate ops.size false) j = false := fun j => by
    unfold isOn
    simp only [Array.getD_eq_getD_getElem?, Array.getElem?_replicate]
    split <;> rfl
  refine quiet_any (rest := rest) hs (fun i j hi hj hn => statT_sound hT hi hj hn) t (fun g w a listed fuel h1 h2 h3 fr => fin _ hK g0 h0 w0 g w a listed fuel h1 h2 h3 fr) p _ _ g _ a (by simp) (fun j hj => by rw [off] at hj; cases hj) (fun i j _ hj => by rw [off] at hj; cases hj) (by
      refine Nat.le_trans (List.length_filter_le _ _) ?_
      simp) hrest ⟨⟨r.st.hp.drew, r.st.ext, r.st.keeps.trans (Keeps.drew (Live g σ.hp) w) r.st.live, r.st.live, r.st.memo⟩, r.nt, r.defers, fun j o v s hL => (by rw [off] at hL; cases hL), fun s v _ e => r.slots s v e⟩

/-- A REGION WHOSE OPERATIONS ALL CHANGE NOTHING. -/
theorem aw_quiet {Q : Exit → St → Prop} {id : Nat} {l : List Oper} (hB : statB l.toArray σ.nt l.length = true) (hm : P.follows .mixedOrders = true) (h : qwl P l.toArray l (Q .normal) σ) : Aw P (.region id l.toArray true) Q σ := by
  have hT : statT l.toArray l.length = true := by
    unfold statT
    simp only [List.all_eq_true, List.mem_range, Bool.or_eq_true, decide_eq_true_eq, List.size_toArray]
    intro j hj; exact .inl hj
  refine qwl_region (rest := 0) hB hT hm (K := Q .normal) (by simpa using h) (fun σ' hK g0 h0 w0 g w a listed fuel hsz hon _ fr => ?_) (by simp)
  have hnil : Region.ready .any l.toArray listed = [] := by
    cases q : Region.ready .any l.toArray listed with
    | nil => rfl
    | cons i r =>
      have hi : i ∈ Region.ready .any l.toArray listed := by rw [q]; simp
      obtain ⟨o, ho, hoff, _⟩ := (ready_iff hsz).1 hi
      have : i < l.length := by have := (Array.getElem?_eq_some_iff.1 ho).1; simpa using this
      rw [hon] at hoff
      simp [this] at hoff
  cases fuel with
  | zero => exact ⟨hnil, σ', g, hK, fr⟩
  | succ fuel => exact ⟨fun _ => ⟨σ', g, hK, fr⟩, fun i hi => by rw [hnil] at hi; cases hi⟩
end
end Go.Ab
