/- The machine's walk: lists of operations, code, loops, jumps, calls. Conditions: those that each theorem names. -/
import Derived.Test.YtfnmdmadaljjkaaHeapOp3
namespace Go.Ab

section
variable {P : Program} {g0 : Gh} {h0 : Hp} {w0 : World} {σ : St} {g : Gh} {w : World} {a : Act} {o : Oper}

theorem makes_makeSlice {t : TypeId} {l c : Operand} (ho : o.op = .makeSlice t l c) (r : FRel g0 h0 w0 σ g w a) {v : Option AV} {h' : Hp} (h : heapOp P σ (.makeSlice t l c) = some (v, h')) : Makes P o a g σ.hp w v h' := by
  simp only [heapOp] at h
  split at h
  · rename_i ti n m ht hn hm
    obtain ⟨d, u1, u2⟩ := run_tyUnder (w := w) ht
    obtain ⟨kn, en⟩ := evInt r hn
    obtain ⟨km, em⟩ := evInt r hm
    split at h
    · rename_i e hkd
      rw [u2] at hkd
      have := kdOf_sl hkd; subst this
      split at h
      · rename_i te hte
        obtain ⟨ie, de, e1, e2, e3, e4, e5, e6⟩ := tyOf_some hte
        split at h
        · rename_i z hz
          obtain ⟨zv, z1, z2⟩ := e6 z hz
          obtain ⟨z3, z4⟩ := RepL.cellsAV (g := g) z2
          split at h
          · rename_i hb
            cases h
            obtain ⟨b1, b2, b3, b4, b5, b6⟩ := hb
            obtain ⟨c1, c2, c3⟩ := zero_cells z3 z4 m.toNat te.size b5
            have hl : Lies g ((Array.range (m.toNat * te.size)).map (zv.cells[· % zv.cells.size]!)) (List.replicate n.toNat z) te.size := by
              refine ⟨fun x hx => by rw [(List.mem_replicate.1 hx).2]; exact b5, fun i x j a f1 f2 => c1.2 i x j a ?_ f2⟩
              rw [List.getElem?_replicate] at f1 ⊢
              split at f1
              · rw [if_pos (by omega)]; exact f1
              · cases f1
            have hsound := r.st.hp.addTok _ e (List.replicate n.toNat z) te.size m.toNat hl c3 c2 (by simp; omega)
            rw [e5] at b4
            have w1 : IntKind.i64.wrap n = n := IntWalk.i64_in n ⟨by omega, by omega⟩
            have w2 : IntKind.i64.wrap m = m := IntWalk.i64_in m ⟨by omega, b3⟩
            have hn0 : ¬ n < 0 := by omega
            have hm0 : ¬ m < 0 := by omega
            have hnm : ¬ m < n := by omega
            have hby : ¬ (281474976710656 : Int) < ie.bytes * m := by omega
            refine ⟨_, _, ⟨hsound, Ext.addTok _ _ _ _, Keeps.alloc _ _ _, fun b l => Live.addTok r.st.hp l, fun _ _ _ q => .inl q⟩, .slice (some ⟨w.heap.size, 0, none⟩) n.toNat m.toNat, ?_, ?_⟩
            · simp only [execOp, ho, Sem.run_bind, Instr.makeSlice, u1, Result.andThen_ok, en, em, asInt, asIntOf, Sem.run_pure, typeInfo, run_program, e1, w1, w2]
              rw [Sem.run_ite, if_neg (by simp; omega)]
              simp only [Sem.run_bind, run_askRoom, Result.andThen_ok, run_sizeOf hte, Sem.run_ite]
              by_cases hz0 : m.toNat * te.size = 0
              · simp only [if_pos hz0, Sem.run_bind, Sem.run_pure, Result.andThen_ok, newRow, run_newObj, World.alloc_eq]
                rw [hz0]
                have hr0 : Array.range 0 = #[] := by simp
                simp [hr0]
              · simp only [if_neg hz0, Sem.run_bind, Sem.run_pure, Result.andThen_ok, zeroValue, typeInfo, run_program, e1, z1, newRow, run_newObj, World.alloc_eq]
            · refine .own (by simp [Gh.addTok, r.st.hp.nx]) (fun b c n' q => ?_)
              simp only [Gh.addTok, r.st.hp.nx, if_true, Option.some.injEq, Prod.mk.injEq, List.length_replicate] at q
              obtain ⟨rfl, rfl, rfl⟩ := q
              simp
          · cases h
        · cases h
      · cases h
    · cases h
  · cases h

theorem heap_sound (r : FRel g0 h0 w0 σ g w a) {v : Option AV} {h' : Hp} (h : heapOp P σ o.op = some (v, h')) : Makes P o a g σ.hp w v h' := by
  cases ho : o.op with
  | alloc t => rw [ho] at h; exact makes_alloc ho r h
  | box t x => rw [ho] at h; exact makes_box ho r h
  | buildSlice t n p => rw [ho] at h; exact makes_buildSlice ho r h
  | store t x y => rw [ho] at h; exact makes_store ho r h
  | makeSlice t l c => rw [ho] at h; exact makes_makeSlice ho r h
  | call c =>
    rw [ho] at h
    cases hc : c.callee with
    | builtin b =>
      cases b with
      | append => exact makes_append hc ho r h
      | _ => simp [heapOp, hc] at h
    | _ => simp [heapOp, hc] at h
  | _ => rw [ho] at h; simp [heapOp] at h

/-! The walk over a list of operations. -/

def St.put (σ : St) (d : Option Tmp) (v : AV) : St :=
  match d with
  | some d => if d < σ.nt then { σ with slots := (d, v) :: σ.slots } else { σ with slots := [] }
  | none => σ
/-- An operation that did not run leaves the empty tuple. -/
def St.drop (σ : St) (d : Option Tmp) : St := σ.put d (.tup [])

theorem FRel.heap {g' : Gh} {h' : Hp} {w' : World} (r : FRel g0 h0 w0 σ g w a) (s : Step1 g σ.hp w g' h' w') : FRel g0 h0 w0 { σ with hp := h' } g' w' a :=
  ⟨r.st.trans s, fun i v e => let ⟨u, e1, e2⟩ := r.slots i v e; ⟨u, e1, e2.mono s.ext⟩, r.nt, r.defers⟩

theorem FRel.put (r : FRel g0 h0 w0 σ g w a) (d : Option Tmp) {u : Value} {v : AV} (hv : Rep g u v) : FRel g0 h0 w0 (σ.put d v) g w (a.put d u) := by
  cases d with
  | none => exact r
  | some d =>
    simp only [St.put]
    split
    · rename_i hd
      refine ⟨r.st, fun s v' e => ?_, by simp [Act.put, r.nt], r.defers⟩
      simp only [lk] at e
      by_cases hs : d = s
      · subst hs
        simp only [if_true, Option.some.injEq] at e
        subst e
        exact ⟨u, by simp [Act.put, r.nt, hd], hv⟩
      · rw [if_neg hs] at e
        obtain ⟨u', e1, e2⟩ := r.slots s v' e
        exact ⟨u', by simp only [Act.put, Array.getElem?_setIfInBounds_ne hs]; exact e1, e2⟩
    · exact ⟨r.st, fun s v' e => (nomatch e), by simp [Act.put, r.nt], r.defers⟩

theorem FRel.drop (r : FRel g0 h0 w0 σ g w a) (d : Option Tmp) : FRel g0 h0 w0 (σ.drop d) g w (a.put d undef) :=
  r.put d (Rep.tup (cs := #[]) (as := []) rfl (by simp))

/-- Where a walk parts: words without what is still to be walked written out behind them, so that a rewriting does not go on before it is asked to. -/
def boolOf : AV → Option Bool
  | .lit (.bool b) => some b
  | _ => none
theorem boolOf_some {v : AV} {b : Bool} (h : boolOf v = some b) : v = .lit (.bool b) := by
  unfold boolOf at h
  split at h
  · cases h; rfl
  · cases h

/-- A call of a function of the program. -/
def CallK (P : Program) (f : FuncId) (args : List AV) (σ : St) (d : Option Tmp) (K : St → Prop) : Prop :=
  (∃ fn, P.funcs[f]? = some fn ∧ fn.body.isNone = false ∧ (fn.name == "runtime.NumGoroutine") = false) ∧ SCall P f args σ.hp (fun r h' => K ({ σ with hp := h' }.put d r))


/-- A pick between two. -/
def pickV (x : Option AV) (d : Option Tmp) (K : St → Prop) (σ : St) : Prop :=
  match x with
  | some v => K (σ.put d v)
  | none => False
theorem Xbp {v : AV} {d : Option Tmp} {K : St → Prop} {σ : St} : pickV (some v) d K σ = K (σ.put d v) := rfl
def SplitP (b : Bool) (x y : Operand) (d : Option Tmp) (K : St → Prop) (σ : St) : Prop := (b = true → pickV (ev σ x) d K σ) ∧ (b = false → pickV (ev σ y) d K σ)
theorem SplitP.intro {b : Bool} {x y : Operand} {d : Option Tmp} {K : St → Prop} {σ : St} (h : b = true → pickV (ev σ x) d K σ) (k : b = false → pickV (ev σ y) d K σ) : SplitP b x y d K σ := ⟨h, k⟩
theorem Xbl {x y : Operand} {d : Option Tmp} {K : St → Prop} {σ : St} : SplitP true x y d K σ = pickV (ev σ x) d K σ := by simp [SplitP]
theorem Xbm {x y : Operand} {d : Option Tmp} {K : St → Prop} {σ : St} : SplitP false x y d K σ = pickV (ev σ y) d K σ := by simp [SplitP]
def PickK (c : Option Bool) (d : Option Tmp) (x y : Operand) (K : St → Prop) (σ : St) : Prop :=
  match c with
  | some b => SplitP b x y d K σ
  | none => False
theorem Xbo {b : Bool} {d : Option Tmp} {x y : Operand} {K : St → Prop} {σ : St} : PickK (some b) d x y K σ = SplitP b x y d K σ := rfl
theorem pickV_elim {x : Option AV} {d : Option Tmp} {K : St → Prop} {σ : St} (h : pickV x d K σ) : ∃ v, x = some v ∧ K (σ.put d v) := by
  cases x with
  | none => exact h.elim
  | some v => exact ⟨v, rfl, h⟩

def fnOf : AV → Option (FuncId × List AV × List AV)
  | .fn (.func id) a b => some (id, a, b)
  | _ => none
theorem fnOf_some {v : AV} {id : FuncId} {a b : List AV} (h : fnOf v = some (id, a, b)) : v = .fn (.func id) a b := by
  unfold fnOf at h
  split at h
  · cases h; rfl
  · cases h

/-- One operation. -/
def stepOp (P : Program) (σ : St) (op : Op) : Option (Option AV × Hp) :=
  match pureOp P σ op with
  | some v => some (some v, σ.hp)
  | none => heapOp P σ op
def stepK (P : Program) (o : Oper) (x : Option (Option AV × Hp)) (K : St → Prop) (σ : St) : Prop :=
  match x with
  | some (some v, h) => K (St.put { σ with hp := h } o.dst v)
  | some (none, h) => K (St.drop { σ with hp := h } o.dst)
  | none => AwOp P o K σ
theorem Xci {P : Program} {o : Oper} {v : AV} {h : Hp} {K : St → Prop} {σ : St} : stepK P o (some (some v, h)) K σ = K (St.put { σ with hp := h } o.dst v) := rfl
theorem Xcj {P : Program} {o : Oper} {h : Hp} {K : St → Prop} {σ : St} : stepK P o (some (none, h)) K σ = K (St.drop { σ with hp := h } o.dst) := rfl
def callK (P : Program) (o : Oper) (x : Option ((FuncId × List AV × List AV) × List AV)) (K : St → Prop) (σ : St) : Prop :=
  match x with
  | some (q, as) => CallK P q.1 (q.2.1 ++ as ++ q.2.2) σ o.dst K
  | none => AwOp P o K σ
theorem Xck {P : Program} {o : Oper} {f : FuncId} {a as b : List AV} {K : St → Prop} {σ : St} : callK P o (some ((f, a, b), as)) K σ = CallK P f (a ++ as ++ b) σ o.dst K := rfl
def pairO {α β : Type} : Option α → Option β → Option (α × β)
  | some a, some b => some (a, b)
  | _, _ => none
def awo (P : Program) (o : Oper) (K : St → Prop) (σ : St) : Prop :=
  match o.op with
  | .pick c x y => PickK ((ev σ c).bind boolOf) o.dst x y K σ
  | .call ⟨.value f, args, _⟩ => callK P o (pairO ((ev σ f).bind fnOf) (evL σ args.toList)) K σ
  | _ => stepK P o (stepOp P σ o.op) K σ

theorem awop_pure {K : St → Prop} {v : AV} (h : pureOp P σ o.op = some v) (hk : K (σ.put o.dst v)) : AwOp P o K σ := by
  intro g0 h0 w0 g w a Q r
  obtain ⟨u, e1, e2⟩ := pure_sound r h
  unfold Oper.wp
  rw [e1]
  exact ⟨_, g, hk, r.put o.dst e2⟩
theorem awop_heap {K : St → Prop} {v : AV} {h' : Hp} (h : heapOp P σ o.op = some (some v, h')) (hk : K ({ σ with hp := h' }.put o.dst v)) : AwOp P o K σ := by
  intro g0 h0 w0 g w a Q r
  obtain ⟨g', w', s, u, e1, e2⟩ := heap_sound r h
  unfold Oper.wp
  rw [e1]
  exact ⟨_, g', hk, (r.heap s).put o.dst e2⟩
theorem awop_heap_skip {K : St → Prop} {h' : Hp} (h : heapOp P σ o.op = some (none, h')) (hk : K ({ σ with hp := h' }.drop o.dst)) : AwOp P o K σ := by
  intro g0 h0 w0 g w a Q r
  obtain ⟨g', w', s, e1⟩ := heap_sound r h
  unfold Oper.wp
  simp only at e1
  rw [e1]
  exact ⟨_, g', hk, (r.heap s).drop o.dst⟩

theorem awop_pick {K : St → Prop} {c x y : Operand} (ho : o.op = .pick c x y) (h : PickK ((ev σ c).bind boolOf) o.dst x y K σ) : AwOp P o K σ := by
  intro g0 h0 w0 g w a Q r
  cases hb : (ev σ c).bind boolOf with
  | none => rw [hb] at h; exact h.elim
  | some b =>
    rw [hb] at h
    have hs : SplitP b x y o.dst K σ := h
    obtain ⟨cv, hc, hcv⟩ := Option.bind_eq_some_iff.1 hb
    have := boolOf_some hcv; subst this
    have hcv := (Rep.of_lit (r.ev hc)).1
    cases b with
    | true =>
      obtain ⟨v, e1, e2⟩ := pickV_elim (hs.1 rfl)
      unfold Oper.wp
      simp only [execOp, ho, hcv, asBool, Sem.run_bind, Sem.run_pure, Result.andThen_ok, if_true]
      exact ⟨_, g, e2, r.put o.dst (r.ev e1)⟩
    | false =>
      obtain ⟨v, e1, e2⟩ := pickV_elim (hs.2 rfl)
      unfold Oper.wp
      simp only [execOp, ho, hcv, asBool, Sem.run_bind, Sem.run_pure, Result.andThen_ok]
      exact ⟨_, g, e2, r.put o.dst (r.ev e1)⟩

theorem awop_call {K : St → Prop} {f : Operand} {args : Array Operand} {tys : Array TypeId} (ho : o.op = .call ⟨.value f, args, tys⟩) {id : FuncId} {first cap as : List AV} (hf : ev σ f = some (.fn (.func id) first cap)) (ha : evL σ args.toList = some as)
    (h : CallK P id (first ++ as ++ cap) σ o.dst K) : AwOp P o K σ := by
  intro g0 h0 w0 g w a Q r
  obtain ⟨⟨fn, k1, k2, k3⟩, hc⟩ := h
  have hv := r.ev hf
  have hl := r.evL ha
  generalize hu : a.eval f = u at hv
  cases hv with
  | fn p1 p2 p3 p4 =>
    rename_i fs cs
    have hargs : RepL g (fs ++ args.map a.eval ++ cs).toList (first ++ as ++ cap) := by
      simp only [Array.toList_append, Array.toList_map]
      exact (RepL.append (RepL.append ⟨p1, p2⟩ hl) ⟨p3, p4⟩)
    have hrun : (execOp a.eval o).run P w = .ok (.enter id (fs ++ args.map a.eval ++ cs)) w := by
      simp only [execOp, ho, Sem.run_bind, resolve, hu, Deferred.ofValue, Sem.run_pure, Result.andThen_ok, invoke, callFunc, run_program, k1, k2, k3]
      simp
    unfold Oper.wp
    rw [hrun]
    refine (hc g w _ r.st.hp hargs).mono fun e w' hh => ?_
    obtain ⟨v, rr, h', g', he, hr, hs, hk⟩ := hh
    subst he
    exact ⟨_, g', hk, (r.heap hs).put o.dst hr⟩

theorem awo_sound {K : St → Prop} (h : awo P o K σ) : AwOp P o K σ := by
  unfold awo at h
  split at h
  · rename_i c x y ho; exact awop_pick ho h
  · rename_i f args tys ho
    cases hf : (ev σ f).bind fnOf with
    | none => rw [hf] at h; exact h
    | some q =>
      rw [hf] at h
      cases ha : evL σ args.toList with
      | none => rw [ha] at h; exact h
      | some as =>
        rw [ha] at h
        obtain ⟨fv, h1, h2⟩ := Option.bind_eq_some_iff.1 hf
        obtain ⟨id, first, cap⟩ := q
        have := fnOf_some h2; subst this
        exact awop_call ho h1 ha h
  · cases hv : pureOp P σ o.op with
    | some v => simp only [stepOp, hv] at h; exact awop_pure hv h
    | none =>
      simp only [stepOp, hv] at h
      cases hh : heapOp P σ o.op with
      | none => rw [hh] at h; exact h
      | some q =>
        rw [hh] at h
        obtain ⟨v, h'⟩ := q
        cases v with
        | some v => exact awop_heap hh h
        | none => exact awop_heap_skip hh h

/-- The bit that a guard asks. -/
def guardBit (ops : Array Oper) (σ : St) (j : Nat) (want : Bool) : Option Bool :=
  match (ops[j]?).bind (·.dst) with
  | some d => match lk σ.slots d with
    | some (.lit (.bool b)) => some b
    | some (.tup []) => some (!want)
    | _ => none
  | none => none

/-- A list of operations, each by a word of its own. -/
def gwl (S : Oper → (St → Prop) → St → Prop) (ops : Array Oper) : List Oper → (St → Prop) → St → Prop
  | [], K, σ => K σ
  | o :: rest, K, σ => match o.guard with
    | none => S o (gwl S ops rest K) σ
    | some (j, want) => match guardBit ops σ j want with
      | some b => (b = want → S o (gwl S ops rest K) σ) ∧ (b = !want → gwl S ops rest K (σ.drop o.dst))
      | none => False
def awl (P : Program) (ops : Array Oper) : List Oper → (St → Prop) → St → Prop := gwl (awo P) ops
section
variable {S : Oper → (St → Prop) → St → Prop} {ops : Array Oper} {rest : List Oper} {K : St → Prop}
def SplitO (b : Bool) (S : Oper → (St → Prop) → St → Prop) (ops : Array Oper) (o : Oper) (rest : List Oper) (K : St → Prop) (σ : St) : Prop :=
  (b = true → S o (gwl S ops rest K) σ) ∧ (b = false → gwl S ops rest K (σ.drop o.dst))
theorem SplitO.intro {b : Bool} (h : b = true → S o (gwl S ops rest K) σ) (k : b = false → gwl S ops rest K (σ.drop o.dst)) : SplitO b S ops o rest K σ := ⟨h, k⟩
theorem Xbh : SplitO true S ops o rest K σ = S o (gwl S ops rest K) σ := by simp [SplitO]
theorem Xbi : SplitO false S ops o rest K σ = gwl S ops rest K (σ.drop o.dst) := by simp [SplitO]
theorem SplitO_not {b : Bool} (h : b = false → S o (gwl S ops rest K) σ) (k : b = true → gwl S ops rest K (σ.drop o.dst)) : SplitO (!b) S ops o rest K σ :=
  ⟨fun e => h (by simpa using e), fun e => k (by simpa using e)⟩
def guardK (x : Option Bool) (want : Bool) (S : Oper → (St → Prop) → St → Prop) (ops : Array Oper) (o : Oper) (rest : List Oper) (K : St → Prop) (σ : St) : Prop :=
  match x with
  | some b => SplitO (if want = true then b else !b) S ops o rest K σ
  | none => False
theorem Xbf {b : Bool} : guardK (some b) true S ops o rest K σ = SplitO b S ops o rest K σ := rfl
theorem Xbg {b : Bool} : guardK (some b) false S ops o rest K σ = SplitO (!b) S ops o rest K σ := rfl
theorem Xbc : gwl S ops [] K σ = K σ := rfl
theorem Xbd {d : Option Tmp} {op : Op} {t : TypeId} {pos : String} {af : Array Edge} :
    gwl S ops (⟨d, op, t, pos, af, none⟩ :: rest) K σ = S ⟨d, op, t, pos, af, none⟩ (gwl S ops rest K) σ := rfl
theorem Xbe {d : Option Tmp} {op : Op} {t : TypeId} {pos : String} {af : Array Edge} {j : Nat} {want : Bool} :
    gwl S ops (⟨d, op, t, pos, af, some (j, want)⟩ :: rest) K σ = guardK (guardBit ops σ j want) want S ops ⟨d, op, t, pos, af, some (j, want)⟩ rest K σ := by
  simp only [gwl, guardK]
  cases guardBit ops σ j want with
  | none => rfl
  | some b => cases b <;> cases want <;> simp [SplitO]
end

theorem guard_sound (r : FRel g0 h0 w0 σ g w a) {ops : Array Oper} {j : Nat} {want b : Bool} (h : guardBit ops σ j want = some b) : (yielded ops a.tmps j == some want) = (b == want) := by
  unfold guardBit at h
  split at h
  · rename_i d hd
    split at h
    · rename_i b' hl
      cases h
      obtain ⟨u, e1, e2⟩ := r.slots d _ hl
      have := (Rep.of_lit e2).1
      subst this
      simp [yielded, hd, e1]
    · rename_i hl
      cases h
      obtain ⟨u, e1, e2⟩ := r.slots d _ hl
      cases e2
      simp [yielded, hd, e1]
    · cases h
  · cases h

theorem awl_sound {ops : Array Oper} {Q : Exit → St → Prop} : ∀ (l : List Oper) {σ : St} {g : Gh} {w : World} {a : Act}, awl P ops l (Q .normal) σ → FRel g0 h0 w0 σ g w a → wpList P ops (Post g0 h0 w0 Q) l a w
  | [], σ, g, w, a, h, r => ⟨σ, g, h, r⟩
  | o :: rest, σ, g, w, a, h, r => by
    simp only [awl, gwl] at h
    unfold wpList
    have step : awo P o (gwl (awo P) ops rest (Q .normal)) σ → o.wp P a w (wpList P ops (Post g0 h0 w0 Q) rest) (Post g0 h0 w0 Q) := fun hh =>
      Oper.wp_mono (fun a' w' ⟨σ', g', k1, k2⟩ => awl_sound rest k1 k2) (awo_sound hh g0 h0 w0 g w a (Post g0 h0 w0 Q) r)
    cases hg : o.guard with
    | none =>
      simp only [hg] at h
      simp only [Region.wanted, hg, if_true]
      exact .inl (step h)
    | some p =>
      obtain ⟨j, want⟩ := p
      cases hb : guardBit ops σ j want with
      | none => simp only [hg, hb] at h
      | some b =>
        have hy := guard_sound r hb
        simp only [hg, hb] at h
        simp only [Region.wanted, hg, hy]
        by_cases hw : b = want
        · subst hw
          simp only [beq_self_eq_true, if_true]
          exact .inl (step (h.1 rfl))
        · have : (b == want) = false := by simp [hw]
          simp only [this]
          exact awl_sound rest (h.2 (by cases b <;> cases want <;> simp_all)) (r.drop o.dst)

theorem wpOps_list {ops : Array Oper} {Q : Exit → Act → World → Prop} (h : wpList P ops Q ops.toList a w) : wpOps P ops Q (List.range ops.size) a w := by
  have := wpOps_eq_wpList (P := P) (ops := ops) (Q := Q) ops.toList 0 (fun j => by simp)
  rw [List.range_eq_range', ← Array.length_toList, this]
  exact h

/-- What holds behind the first of two. -/
def seqK (K : St → Prop) (Q : Exit → St → Prop) : Exit → St → Prop
  | .normal, σ => K σ
  | e, σ => Q e σ
def blockK (id : Nat) (Q : Exit → St → Prop) : Exit → St → Prop
  | .exit i, σ => if i = id then Q .normal σ else Q (.exit i) σ
  | e, σ => Q e σ

/-- Code. Loops, scopes and regions that draw their order are met by theorems of their own. -/
def awp (P : Program) : Code → (Exit → St → Prop) → St → Prop
  | .skip, Q, σ => Q .normal σ
  | .region id ops draw, Q, σ => if draw = true then Aw P (.region id ops draw) Q σ else awl P ops ops.toList (Q .normal) σ
  | .seq a b, Q, σ => awp P a (seqK (awp P b Q) Q) σ
  | .cond c x y, Q, σ => match (ev σ c).bind boolOf with
    | some b => (b = true → awp P x Q σ) ∧ (b = false → awp P y Q σ)
    | none => False
  | .block id c, Q, σ => awp P c (blockK id Q) σ
  | .exit id, Q, σ => Q (.exit id) σ
  | .label _, Q, σ => Q .normal σ
  | .goto l, Q, σ => Q (.goto l) σ
  | .ret, Q, σ => Q .ret σ
  | .loop c, Q, σ => Aw P (.loop c) Q σ
  | .scope c, Q, σ => Aw P (.scope c) Q σ
  | .rangeFunc f ps as b, Q, σ => Aw P (.rangeFunc f ps as b) Q σ
  | .refuse _, _, _ => False

section
variable {Q : Exit → St → Prop} {K : St → Prop}
theorem Xaa : awp P .skip Q σ = Q .normal σ := rfl
theorem Xab {id : Nat} {l : List Oper} : awp P (.region id l.toArray false) Q σ = awl P l.toArray l (Q .normal) σ := by simp [awp]
theorem Xac {id : Nat} {ops : Array Oper} : awp P (.region id ops true) Q σ = Aw P (.region id ops true) Q σ := by simp [awp]
theorem Xad {x y : Code} : awp P (.seq x y) Q σ = awp P x (seqK (awp P y Q) Q) σ := rfl
def SplitC (b : Bool) (P : Program) (x y : Code) (Q : Exit → St → Prop) (σ : St) : Prop := (b = true → awp P x Q σ) ∧ (b = false → awp P y Q σ)
theorem SplitC.intro {b : Bool} {x y : Code} (h : b = true → awp P x Q σ) (k : b = false → awp P y Q σ) : SplitC b P x y Q σ := ⟨h, k⟩
theorem Xbj {x y : Code} : SplitC true P x y Q σ = awp P x Q σ := by simp [SplitC]
theorem Xbk {x y : Code} : SplitC false P x y Q σ = awp P y Q σ := by simp [SplitC]
def condK (b : Option Bool) (P : Program) (x y : Code) (Q : Exit → St → Prop) (σ : St) : Prop :=
  match b with
  | some b => SplitC b P x y Q σ
  | none => False
theorem Xbn {b : Bool} {x y : Code} : condK (some b) P x y Q σ = SplitC b P x y Q σ := rfl
theorem Xae {c : Operand} {x y : Code} : awp P (.cond c x y) Q σ = condK ((ev σ c).bind boolOf) P x y Q σ := by
  simp only [awp, condK]
  cases (ev σ c).bind boolOf <;> rfl
theorem Xaf {id : Nat} {c : Code} : awp P (.block id c) Q σ = awp P c (blockK id Q) σ := rfl
theorem Xag {id : Nat} : awp P (.exit id) Q σ = Q (.exit id) σ := rfl
theorem Xah {l : Nat} : awp P (.label l) Q σ = Q .normal σ := rfl
theorem Xai {l : Nat} : awp P (.goto l) Q σ = Q (.goto l) σ := rfl
theorem Xaj : awp P .ret Q σ = Q .ret σ := rfl
theorem Xak {c : Code} : awp P (.loop c) Q σ = Aw P (.loop c) Q σ := rfl
theorem Xal {c : Code} : awp P (.scope c) Q σ = Aw P (.scope c) Q σ := rfl
theorem Xam : seqK K Q .normal σ = K σ := rfl
theorem Xan : seqK K Q .ret σ = Q .ret σ := rfl
theorem Xao {i : Nat} : seqK K Q (.exit i) σ = Q (.exit i) σ := rfl
theorem Xap {i : Nat} : seqK K Q (.goto i) σ = Q (.goto i) σ := rfl
theorem Xaq {i : Nat} : blockK i Q .normal σ = Q .normal σ := rfl
theorem Xar {i : Nat} : blockK i Q .ret σ = Q .ret σ := rfl
theorem Xas {i j : Nat} : blockK i Q (.goto j) σ = Q (.goto j) σ := rfl
theorem Xat {i j : Nat} : blockK i Q (.exit j) σ = if j = i then Q .normal σ else Q (.exit j) σ := rfl
end

theorem awp_sound : ∀ (c : Code) {Q : Exit → St → Prop} {σ : St}, awp P c Q σ → Aw P c Q σ
  | .skip, Q, σ, h => fun g0 h0 w0 g w a r => wp_skip ⟨σ, g, h, r⟩
  | .region id ops draw, Q, σ, h => by
    unfold awp at h
    split at h
    · exact h
    · rename_i hd
      have : draw = false := by cases draw <;> simp_all
      subst this
      exact fun g0 h0 w0 g w a r => wp_region (wpOps_list (awl_sound _ h r))
  | .seq x y, Q, σ, h => fun g0 h0 w0 g w a r => wp_seq (wp_mono (awp_sound x h g0 h0 w0 g w a r) fun e a' w' hh => by
      obtain ⟨σ', g', k1, k2⟩ := hh
      cases e with
      | normal => exact awp_sound y k1 g0 h0 w0 g' w' a' k2
      | _ => exact ⟨σ', g', k1, k2⟩)
  | .cond c x y, Q, σ, h => fun g0 h0 w0 g w a r => by
    unfold awp at h
    split at h
    · rename_i b hb
      obtain ⟨cv, hc, hcv⟩ := Option.bind_eq_some_iff.1 hb
      have := boolOf_some hcv; subst this
      exact wp_cond_split (Rep.of_lit (r.ev hc)).1 (fun q => awp_sound x (h.1 q) g0 h0 w0 g w a r) (fun q => awp_sound y (h.2 q) g0 h0 w0 g w a r)
    · exact h.elim
  | .block id c, Q, σ, h => fun g0 h0 w0 g w a r => wp_block (wp_mono (awp_sound c h g0 h0 w0 g w a r) fun e a' w' hh => by
      obtain ⟨σ', g', k1, k2⟩ := hh
      cases e with
      | exit i =>
        simp only [blockK] at k1
        simp only [Exit.inBlock]
        split
        · rename_i hi; rw [if_pos hi] at k1; exact ⟨σ', g', k1, k2⟩
        · rename_i hi; rw [if_neg hi] at k1; exact ⟨σ', g', k1, k2⟩
      | _ => exact ⟨σ', g', k1, k2⟩)
  | .exit id, Q, σ, h => fun g0 h0 w0 g w a r => wp_exit ⟨σ, g, h, r⟩
  | .label l, Q, σ, h => fun g0 h0 w0 g w a r => wp_label ⟨σ, g, h, r⟩
  | .goto l, Q, σ, h => fun g0 h0 w0 g w a r => wp_goto ⟨σ, g, h, r⟩
  | .ret, Q, σ, h => fun g0 h0 w0 g w a r => wp_ret ⟨σ, g, h, r⟩
  | .loop c, _, _, h => h
  | .scope c, _, _, h => h
  | .rangeFunc .., _, _, h => h
  | .refuse _, _, _, h => h.elim
end
end Go.Ab
