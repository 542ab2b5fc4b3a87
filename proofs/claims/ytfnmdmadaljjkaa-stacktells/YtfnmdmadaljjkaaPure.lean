/- Operations that change nothing: loads, addresses, arithmetic, slices of slices. Conditions: those that each theorem names. -/
import Derived.Test.YtfnmdmadaljjkaaEq
namespace Go.Ab

/-- The row of cells into which a pointer points, and where. -/
def rowOf (h : Hp) : AV → Option (List AV × Nat)
  | .ptr id off => (lk h.boxes id).map fun cs => (cs, off)
  | .pp cs off => some (cs, off)
  | .np cs => some (cs, 0)
  | .ep t n s i off => match lk h.toks t with
    | some k => if n = k.xs.length ∧ s = k.s then (k.xs[i]?).map fun cs => (cs, off) else none
    | none => none
  | _ => none
def moved (a : AV) (o : Nat) : Option AV :=
  match a with
  | .ptr id off => some (.ptr id (off + o))
  | .pp cs off => some (.pp cs (off + o))
  | .np cs => some (.pp cs o)
  | .ep t n s i off => some (.ep t n s i (off + o))
  | _ => none

theorem rowOf_sound {g : Gh} {h : Hp} {w : World} (r : HRel g h w) {v : Value} {a : AV} (hv : Rep g v a) {cs : List AV} {off : Nat} (e : rowOf h a = some (cs, off)) :
    ∃ b base vs, v = .pointer (some ⟨b, base + off, none⟩) ∧ RepL g vs cs ∧ (∀ x ∈ vs, x.oneCell' = true) ∧ ∀ j x, vs[j]? = some x → w.cell? ⟨b, base + j, none⟩ = some x := by
  cases hv with
  | @ptr ad id off' h1 h2 =>
    simp only [rowOf] at e
    cases hl : lk h.boxes id with
    | none => simp [hl] at e
    | some cs' =>
      simp only [hl, Option.map_some, Option.some.injEq, Prod.mk.injEq] at e
      obtain ⟨rfl, rfl⟩ := e
      obtain ⟨b, vs, ty, f1, f2, f3, f4, f5⟩ := r.box id cs' hl
      have := h2 b f1; subst this
      exact ⟨b, 0, vs.toList, by simp, f3, f4, fun j x hx => by rw [cell_of_block f2]; simpa using hx⟩
  | @pp b base off' cs' f h1 h2 =>
    simp only [rowOf, Option.some.injEq, Prod.mk.injEq] at e
    obtain ⟨rfl, rfl⟩ := e
    refine ⟨b, base, (List.range cs'.length).map f, rfl, ⟨by simp, fun i c a e1 e2 => ?_⟩, fun x hx => ?_, fun j x hx => ?_⟩
    · have hi : i < cs'.length := (List.getElem?_eq_some_iff.1 e2).1
      simp [List.getElem?_map, List.getElem?_range hi] at e1
      subst e1; exact h2 i a e2
    · simp only [List.mem_map, List.mem_range] at hx
      obtain ⟨i, hi, rfl⟩ := hx
      exact (r.mem _ _ _ (h1 i cs'[i] (List.getElem?_eq_getElem hi))).2
    · have hj : j < cs'.length := by have := (List.getElem?_eq_some_iff.1 hx).1; simpa using this
      simp [List.getElem?_map, List.getElem?_range hj] at hx
      subst hx
      exact (r.mem _ _ _ (h1 j cs'[j] (List.getElem?_eq_getElem hj))).1
  | @np b cs' f h0 h1 h2 =>
    simp only [rowOf, Option.some.injEq, Prod.mk.injEq] at e
    obtain ⟨rfl, rfl⟩ := e
    refine ⟨b, 0, (List.range cs'.length).map f, rfl, ⟨by simp, fun i c a e1 e2 => ?_⟩, fun x hx => ?_, fun j x hx => ?_⟩
    · have hi : i < cs'.length := (List.getElem?_eq_some_iff.1 e2).1
      simp [List.getElem?_map, List.getElem?_range hi] at e1
      subst e1; exact h2 i a e2
    · simp only [List.mem_map, List.mem_range] at hx
      obtain ⟨i, hi, rfl⟩ := hx
      exact (r.mem _ _ _ (h1 i cs'[i] (List.getElem?_eq_getElem hi))).2
    · have hj : j < cs'.length := by have := (List.getElem?_eq_some_iff.1 hx).1; simpa using this
      simp [List.getElem?_map, List.getElem?_range hj] at hx
      subst hx
      rw [Nat.zero_add]
      exact (r.mem _ _ _ (h1 j cs'[j] (List.getElem?_eq_getElem hj))).1
  | @ep ad t n s i off' h1 h2 =>
    simp only [rowOf] at e
    cases hl : lk h.toks t with
    | none => simp [hl] at e
    | some k =>
      simp only [hl] at e
      split at e
      · rename_i hns
        obtain ⟨rfl, rfl⟩ := hns
        cases hx : k.xs[i]? with
        | none => simp [hx] at e
        | some cs' =>
          simp only [hx, Option.map_some, Option.some.injEq, Prod.mk.injEq] at e
          obtain ⟨rfl, rfl⟩ := e
          obtain ⟨b, c, vs, ty, f1, f2, f3, f4, f5, f6, f7, f8, f9⟩ := r.tok t k hl
          have := (h2 b c _ f1).2 rfl; subst this
          have hlen : cs'.length = k.s := f6 cs' (List.mem_of_getElem? hx)
          have hi : i < k.xs.length := (List.getElem?_eq_some_iff.1 hx).1
          have hle : i * k.s + k.s ≤ vs.size := by
            rw [f3]
            calc i * k.s + k.s = (i + 1) * k.s := by rw [Nat.add_mul, Nat.one_mul]
              _ ≤ c * k.s := Nat.mul_le_mul_right _ (by omega)
          refine ⟨b, i * k.s, (vs.toList.drop (i * k.s)).take k.s, rfl, ⟨by simp; omega, fun j x a e1 e2 => ?_⟩, fun x hx' => f8 x (List.mem_of_mem_drop (List.mem_of_mem_take hx')), fun j x hx' => ?_⟩
          · obtain ⟨v, g1, g2⟩ := f7 i cs' j a hx e2
            have hj : j < k.s := by rw [← hlen]; exact (List.getElem?_eq_some_iff.1 e2).1
            rw [List.getElem?_take, if_pos hj, List.getElem?_drop] at e1
            simp only [Array.getElem?_toList] at e1
            rw [g1] at e1; cases e1; exact g2
          · rw [cell_of_block f2]
            rw [List.getElem?_take] at hx'
            split at hx'
            · rw [List.getElem?_drop] at hx'; simpa using hx'
            · cases hx'
      · cases e
  | lit h1 => simp [rowOf] at e
  | agg h0 h1 h2 => simp [rowOf] at e
  | tup h1 h2 => simp [rowOf] at e
  | vecN => simp [rowOf] at e
  | vecE _ => simp [rowOf] at e
  | vec f h1 h2 h3 h4 h5 => simp [rowOf] at e
  | own h1 h2 => simp [rowOf] at e
  | fn h1 h2 h3 h4 => simp [rowOf] at e
  | ifc h1 => simp [rowOf] at e
  | mp h1 => simp [rowOf] at e

theorem Addr.add_eq (b o n : Nat) : (⟨b, o, none⟩ : Addr).add n = ⟨b, o + n, none⟩ := by unfold Addr.add; split <;> simp_all

theorem moved_sound {g : Gh} {v : Value} {a a' : AV} (hv : Rep g v a) {o : Nat} (e : moved a o = some a') : ∃ ad, v = .pointer (some ad) ∧ Rep g (.pointer (some (ad.add o))) a' := by
  cases hv with
  | @ptr ad id off h1 h2 =>
    simp only [moved, Option.some.injEq] at e; subst e
    exact ⟨ad, rfl, .ptr h1 fun b hb => by rw [h2 b hb, Addr.add_eq]⟩
  | @pp b base off cs f h1 h2 =>
    simp only [moved, Option.some.injEq] at e; subst e
    refine ⟨_, rfl, ?_⟩
    rw [Addr.add_eq, Nat.add_assoc]
    exact .pp f h1 h2
  | @np b cs f h0 h1 h2 =>
    simp only [moved, Option.some.injEq] at e; subst e
    refine ⟨_, rfl, ?_⟩
    rw [Addr.add_eq]
    exact .pp (base := 0) f (fun j a e => by rw [Nat.zero_add]; exact h1 j a e) h2
  | @ep ad t n s i off h1 h2 =>
    simp only [moved, Option.some.injEq] at e; subst e
    exact ⟨ad, rfl, .ep h1 fun b c m hb => ⟨(h2 b c m hb).1, fun q => by rw [(h2 b c m hb).2 q, Addr.add_eq, Nat.add_assoc]⟩⟩
  | lit h1 => simp [moved] at e
  | agg h0 h1 h2 => simp [moved] at e
  | tup h1 h2 => simp [moved] at e
  | vecN => simp [moved] at e
  | vecE _ => simp [moved] at e
  | vec f h1 h2 h3 h4 h5 => simp [moved] at e
  | own h1 h2 => simp [moved] at e
  | fn h1 h2 h3 h4 => simp [moved] at e
  | ifc h1 => simp [moved] at e
  | mp h1 => simp [moved] at e

theorem RepL.get {g : Gh} {vs : List Value} {as : List AV} (h : RepL g vs as) {i : Nat} {a : AV} (e : as[i]? = some a) : ∃ v, vs[i]? = some v ∧ Rep g v a := by
  have hi : i < vs.length := by rw [h.1]; exact (List.getElem?_eq_some_iff.1 e).1
  exact ⟨vs[i], List.getElem?_eq_getElem hi, h.2 i _ a (List.getElem?_eq_getElem hi) e⟩
theorem RepL.drop {g : Gh} {vs : List Value} {as : List AV} (h : RepL g vs as) (n : Nat) : RepL g (vs.drop n) (as.drop n) :=
  ⟨by simp [h.1], fun i c a e1 e2 => h.2 (n + i) c a (by simpa [List.getElem?_drop] using e1) (by simpa [List.getElem?_drop] using e2)⟩
theorem RepL.take {g : Gh} {vs : List Value} {as : List AV} (h : RepL g vs as) (n : Nat) : RepL g (vs.take n) (as.take n) :=
  ⟨by simp [h.1], fun i c a e1 e2 => by
    rw [List.getElem?_take] at e1 e2
    split at e1
    · rename_i hi; rw [if_pos hi] at e2; exact h.2 i c a e1 e2
    · cases e1⟩

/-- A value that is read out of a row of cells. -/
theorem run_loadVar_row' {P : Program} {g : Gh} {w : World} {t : TypeId} {ti : TI} (ht : tyOf P t = some ti) {b base off : Nat} {vs : List Value} {cs : List AV} (hr : RepL g vs cs) (h1 : ∀ x ∈ vs, x.oneCell' = true)
    (hc : ∀ j x, vs[j]? = some x → w.cell? ⟨b, base + j, none⟩ = some x) {a : AV} (e : valAt ti cs off = some a) : ∃ v, (loadVar t ⟨b, base + off, none⟩).run P w = .ok v w ∧ Rep g v a := by
  obtain ⟨i, d, e1, e2, e3, e4, _, _⟩ := tyOf_some ht
  unfold valAt at e
  rw [e3, kd_agg] at e
  split at e
  · rename_i hrow
    split at e
    · rename_i hle
      cases e
      have hl : ((vs.drop off).take ti.size).length = ti.size := by simp [hr.1]; omega
      refine ⟨_, run_loadVar_mid (P := P) w b (base + off) t ((vs.drop off).take ti.size) d (fun j x hx => ?_) e2 hrow (by rw [e1, hl, e4]; rfl), ?_⟩
      · rw [List.getElem?_take] at hx
        split at hx
        · rw [List.getElem?_drop] at hx
          rw [Nat.add_assoc]; exact hc _ _ hx
        · cases hx
      · have := (hr.drop off).take ti.size
        exact .agg (fun c hc' => h1 c (List.mem_of_mem_drop (List.mem_of_mem_take (by simpa using hc')))) this.1 this.2
    · cases e
  · rename_i hrow
    obtain ⟨v, f1, f2⟩ := hr.get e
    refine ⟨v, ?_, f2⟩
    have hcell := hc off v f1
    simp [loadVar, Sem.run_bind, run_isAgg e2, hrow, hcell]

theorem run_loadAt' {P : Program} {g : Gh} {h : Hp} {w : World} (r : HRel g h w) {t : TypeId} {ti : TI} (ht : tyOf P t = some ti) {v : Value} {p : AV} (hv : Rep g v p) {cs : List AV} {off : Nat} (hr : rowOf h p = some (cs, off)) {a : AV} (e : valAt ti cs off = some a) :
    ∃ u, (Instr.loadAt t v).run P w = .ok u w ∧ Rep g u a := by
  obtain ⟨b, base, vs, rfl, f1, f2, f3⟩ := rowOf_sound r hv hr
  obtain ⟨u, g1, g2⟩ := run_loadVar_row' ht f1 f2 f3 e
  exact ⟨u, by simp [Instr.loadAt, Instr.sureAddr, g1], g2⟩

/-- Bounds of a slice expression. -/
def bound : Option AV → Option (Option Int)
  | none => some none
  | some (.lit (.int _ n)) => some (some n)
  | _ => none

def fullOf (mx : Option Int) (h : Int) (full : Bool) (len : Nat) : Bool :=
  match mx with
  | some m => decide (m = h)
  | none => full && decide (h = len)
def sliceV (size : Nat) (xs : List (List AV)) (full : Bool) (lo hi mx : Option Int) : Option AV :=
  let h := hi.getD xs.length
  let l := lo.getD 0
  if 0 ≤ l ∧ l ≤ h ∧ h ≤ (mx.getD xs.length) ∧ (mx.getD xs.length) ≤ xs.length ∧ (mx.isSome → hi.isSome) ∧ ∀ x ∈ xs, x.length = size then
    some (.vec ((xs.drop l.toNat).take (h.toNat - l.toNat)) (fullOf mx h full xs.length))
  else none

def evO (σ : St) : Option Operand → Option (Option AV)
  | none => some none
  | some x => (ev σ x).map some

def intOfAV : AV → Option Int
  | .lit (.int _ n) => some n
  | _ => none

/-- Operations that change nothing. -/
def pureOp (P : Program) (σ : St) : Op → Option AV
  | .move x => ev σ x
  | .assign x => ev σ x
  | .build t parts =>
    match tyOf P t, evP σ parts.toList with
    | some ti, some ps => match ti.zero, ti.kd with
      | some z, .st fs => match places P fs with
        | some pl => (fillAV (pl[·]?) z ps).map .agg
        | none => none
      | some z, .arr _ e => match tyOf P e with
        | some te => (fillAV (fun i => some (i * te.size, te.size)) z ps).map .agg
        | none => none
      | _, _ => none
    | _, _ => none
  | .load t x => match tyOf P t, ev σ x with
    | some ti, some p => match rowOf σ.hp p with
      | some (cs, off) => valAt ti cs off
      | none => none
    | _, _ => none
  | .nilCheck x => match ev σ x with
    | some (.ptr id off) => some (.ptr id off)
    | some (.pp cs off) => some (.pp cs off)
    | some (.np cs) => some (.np cs)
    | some (.ep t n s i off) => some (.ep t n s i off)
    | some (.fn (.func f) a b) => some (.fn (.func f) a b)
    | _ => none
  | .binOp op t x y _ => match ev σ x, ev σ y with
    | some (.lit a), some (.lit b) => (binV P op t a b).map .lit
    | some (.agg as), some (.agg bs) => aggEq P op t as bs
    | some (.np _), some (.lit (.pointer none)) => (nilCmp P op t false).map .lit
    | some (.ptr _ _), some (.lit (.pointer none)) => (nilCmp P op t false).map .lit
    | _, _ => none
  | .unOp op _ x => match op, ev σ x with
    | .not, some (.lit (.bool b)) => some (.lit (.bool !b))
    | .neg, some (.lit (.int k n)) => some (.lit (.int k (k.wrap (0 - n))))
    | _, _ => none
  | .convert s d x => match tyOf P s, tyOf P d, ev σ x with
    | some _, some td, some (.lit (.int _ n)) => match td.kd with
      | .int k => some (.lit (.int k (k.wrap n)))
      | _ => none
    | some ts, some td, some (.lit (.string q)) => match ts.kd, td.kd with
      | .str, .str => some (.lit (.string q))
      | _, _ => none
    | _, _, _ => none
  | .makeFunc f first cap => match evL σ first.toList, evL σ cap.toList with
    | some a, some b => some (.fn f a b)
    | _, _ => none
  | .fieldAddr s x f => match tyOf P s, ev σ x with
    | some ti, some p => match ti.kd with
      | .st fs => match fs[f]? with
        | some (off, ft) => match tyOf P ft with
          | some tf => if tf.size = 0 then none else moved p off
          | none => none
        | none => none
      | _ => none
    | _, _ => none
  | .field s x f => match tyOf P s, ev σ x with
    | some ti, some (.agg cs) => match ti.kd with
      | .st fs => match fs[f]? with
        | some (off, ft) => match tyOf P ft with
          | some tf => valAt tf cs off
          | none => none
        | none => none
      | _ => none
    | _, _ => none
  | .indexAddr t x i => match tyOf P t, ev σ x, (ev σ i).bind intOfAV with
    | some ti, some (.vec xs _), some n => match ti.kd with
      | .sl e => match tyOf P e with
        | some te => if 0 ≤ n ∧ n < xs.length ∧ (xs.getD n.toNat []).length = te.size then some (.pp (xs.getD n.toNat []) 0) else none
        | none => none
      | _ => none
    | some ti, some (.own tk m), some n => match ti.kd, lk σ.hp.toks tk with
      | .sl e, some k => match tyOf P e with
        | some te => if 0 ≤ n ∧ n < m ∧ m = k.xs.length ∧ k.s = te.size then some (.ep tk m k.s n.toNat 0) else none
        | none => none
      | _, _ => none
    | some ti, some p, some n => match ti.kd with
      | .arr len e => match tyOf P e with
        | some te => if 0 ≤ n ∧ n < len then moved p (n.toNat * te.size) else none
        | none => none
      | _ => none
    | _, _, _ => none
  | .index t x i => match tyOf P t, ev σ x, (ev σ i).bind intOfAV with
    | some ti, some (.lit (.string s)), some n => match ti.kd with
      | .str => if 0 ≤ n then (s[n.toNat]?).map fun b => .lit (.int .u8 b.toNat) else none
      | _ => none
    | some ti, some (.agg cs), some n => match ti.kd with
      | .arr len e => match tyOf P e with
        | some te => if 0 ≤ n ∧ n < len then valAt te cs (n.toNat * te.size) else none
        | none => none
      | _ => none
    | _, _, _ => none
  | .slice t x lo hi mx => match tyOf P t, ev σ x, (evO σ lo).bind bound, (evO σ hi).bind bound, (evO σ mx).bind bound with
    | some ti, some (.vec xs full), some l, some h, some m => match ti.kd with
      | .sl e => match tyOf P e with
        | some te => sliceV te.size xs full l h m
        | none => none
      | _ => none
    | some ti, some (.lit (.string s)), some l, some h, some none => match ti.kd with
      | .str => if 0 ≤ l.getD 0 ∧ l.getD 0 ≤ h.getD s.size ∧ h.getD s.size ≤ s.size then some (.lit (.string (s.extract (l.getD 0).toNat (h.getD s.size).toNat))) else none
      | _ => none
    | _, _, _, _, _ => none
  | .extract x i => match ev σ x with
    | some (.tup vs) => vs[i]?
    | _ => none
  | .call c => match c.callee with
    | .builtin .len => match c.argTypes.toList, evL σ c.args.toList with
      | t :: _, some (a :: _) => match tyOf P t, a with
        | some ti, .vec xs _ => match ti.kd with
          | .sl _ => some (.lit (.int .i64 xs.length))
          | _ => none
        | some ti, .own _ n => match ti.kd with
          | .sl _ => some (.lit (.int .i64 n))
          | _ => none
        | some ti, .lit (.string s) => match ti.kd with
          | .str => some (.lit (.int .i64 s.size))
          | _ => none
        | _, _ => none
      | _, _ => none
    | .builtin .min => match evL σ c.args.toList with
      | some [.lit (.int k a), .lit (.int _ b)] => some (.lit (.int k (if b < a then b else a)))
      | _ => none
    | .builtin .max => match evL σ c.args.toList with
      | some [.lit (.int k a), .lit (.int _ b)] => some (.lit (.int k (if b > a then b else a)))
      | _ => none
    | _ => none
  | _ => none
end Go.Ab
