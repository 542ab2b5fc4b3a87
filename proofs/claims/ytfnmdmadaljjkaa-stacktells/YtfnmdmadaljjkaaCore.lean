/- The abstract machine: values without addresses, what they stand for in memory, and how that is kept while memory grows. Conditions: none; nothing here speaks of a program. -/
import Derived.Test.YtfnmdmadaljjkaaCinv
namespace Go.Ab

/-- The ghost of a heap: cells that are never written again; the blocks of variables; the blocks, capacities and lengths of owned slices; the next free name. -/
structure Gh where
  mem : Nat → Nat → Option Value
  box : Nat → Option Nat
  tok : Nat → Option (Nat × Nat × Nat)
  nx : Nat
  cch : Nat → Option Nat

inductive Rep (g : Gh) : Value → AV → Prop
  | lit {v : Value} : plain v = true → Rep g v (.lit v)
  | agg {cs : Array Value} {as : List AV} : (∀ c ∈ cs.toList, c.oneCell' = true) → cs.toList.length = as.length → (∀ (i : Nat) (c : Value) (a : AV), cs.toList[i]? = some c → as[i]? = some a → Rep g c a) → Rep g (.agg cs) (.agg as)
  | tup {cs : Array Value} {as : List AV} : cs.toList.length = as.length → (∀ (i : Nat) (c : Value) (a : AV), cs.toList[i]? = some c → as[i]? = some a → Rep g c a) → Rep g (.tuple cs) (.tup as)
  | vecN {full : Bool} : Rep g (.slice none 0 0) (.vec [] full)
  | vecE {ad : Addr} {cap : Nat} {full : Bool} : (full = true → cap = 0) → Rep g (.slice (some ad) 0 cap) (.vec [] full)
  | vec {b off cap s : Nat} {xs : List (List AV)} {full : Bool} (f : Nat → Nat → Value) : (∀ x ∈ xs, x.length = s) → (full = true → cap = xs.length) → xs.length ≤ cap →
      (∀ (i : Nat) (x : List AV) (j : Nat) (a : AV), xs[i]? = some x → x[j]? = some a → g.mem b (off + i * s + j) = some (f i j)) →
      (∀ (i : Nat) (x : List AV) (j : Nat) (a : AV), xs[i]? = some x → x[j]? = some a → Rep g (f i j) a) → Rep g (.slice (some ⟨b, off, none⟩) xs.length cap) (.vec xs full)
  | pp {b base off : Nat} {cs : List AV} (f : Nat → Value) : (∀ (j : Nat) (a : AV), cs[j]? = some a → g.mem b (base + j) = some (f j)) → (∀ (j : Nat) (a : AV), cs[j]? = some a → Rep g (f j) a) →
      Rep g (.pointer (some ⟨b, base + off, none⟩)) (.pp cs off)
  | ptr {a : Addr} {id off : Nat} : id < g.nx → (∀ b, g.box id = some b → a = ⟨b, off, none⟩) → Rep g (.pointer (some a)) (.ptr id off)
  | own {a : Option Addr} {n cap t : Nat} : t < g.nx → (∀ b c m, g.tok t = some (b, c, m) → n ≤ m ∧ (n = m → a = some ⟨b, 0, none⟩ ∧ cap = c)) → Rep g (.slice a n cap) (.own t n)
  | ep {a : Addr} {t n s i off : Nat} : t < g.nx → (∀ b c m, g.tok t = some (b, c, m) → n ≤ m ∧ (n = m → a = ⟨b, i * s + off, none⟩)) → Rep g (.pointer (some a)) (.ep t n s i off)
  | fn {f : Fn} {fs cs : Array Value} {as bs : List AV} : fs.toList.length = as.length → (∀ (i : Nat) (c : Value) (a : AV), fs.toList[i]? = some c → as[i]? = some a → Rep g c a) →
      cs.toList.length = bs.length → (∀ (i : Nat) (c : Value) (a : AV), cs.toList[i]? = some c → bs[i]? = some a → Rep g c a) → Rep g (.func f fs cs) (.fn f as bs)
  | ifc {t : TypeId} {v : Value} {a : AV} : Rep g v a → Rep g (.iface t v) (.ifc t a)
  | mp {r id : Nat} : g.cch r = some (id + 1) → Rep g (.map (some r)) (.mp id)
  | np {b : Nat} {cs : List AV} (f : Nat → Value) : g.cch b = some 0 → (∀ (j : Nat) (a : AV), cs[j]? = some a → g.mem b j = some (f j)) → (∀ (j : Nat) (a : AV), cs[j]? = some a → Rep g (f j) a) →
      Rep g (.pointer (some ⟨b, 0, none⟩)) (.np cs)

/-- What an owned slice may do: grow (a new length tells it from what it was), or be let go. -/
def tokMono (x y : Option (Nat × Nat × Nat)) : Prop :=
  y = none ∨ ∃ b c n b' c' n', x = some (b, c, n) ∧ y = some (b', c', n') ∧ n ≤ n' ∧ (n = n' → b' = b ∧ c' = c)

structure Ext (g g' : Gh) : Prop where
  nx : g.nx ≤ g'.nx
  mem : ∀ b o v, g.mem b o = some v → g'.mem b o = some v
  box : ∀ id, id < g.nx → g'.box id = g.box id
  tok : ∀ t, t < g.nx → tokMono (g.tok t) (g'.tok t)
  cch : ∀ r t, g.cch r = some t → g'.cch r = some t

theorem tokMono.refl (x : Option (Nat × Nat × Nat)) : tokMono x x := by
  cases x with
  | none => exact .inl rfl
  | some p => obtain ⟨b, c, n⟩ := p; exact .inr ⟨b, c, n, b, c, n, rfl, rfl, Nat.le_refl _, fun _ => ⟨rfl, rfl⟩⟩

theorem tokMono.trans {x y z : Option (Nat × Nat × Nat)} (h : tokMono x y) (k : tokMono y z) : tokMono x z := by
  rcases k with k | ⟨b, c, n, b', c', n', e1, e2, hn, hs⟩
  · exact .inl k
  · rcases h with h | ⟨d, e, m, d', e', m', f1, f2, hm, ht⟩
    · rw [h] at e1; cases e1
    · rw [f2] at e1; cases e1
      refine .inr ⟨d, e, m, b', c', n', f1, e2, Nat.le_trans hm hn, fun q => ?_⟩
      obtain ⟨r1, r2⟩ := ht (by omega)
      obtain ⟨r3, r4⟩ := hs (by omega)
      exact ⟨r3.trans r1, r4.trans r2⟩

theorem Ext.refl (g : Gh) : Ext g g := ⟨Nat.le_refl _, fun _ _ _ h => h, fun _ _ => rfl, fun _ _ => tokMono.refl _, fun _ _ h => h⟩
theorem Ext.trans {a b c : Gh} (h : Ext a b) (k : Ext b c) : Ext a c :=
  ⟨Nat.le_trans h.nx k.nx, fun x y v e => k.mem x y v (h.mem x y v e), fun id hi => (k.box id (Nat.lt_of_lt_of_le hi h.nx)).trans (h.box id hi),
   fun t ht => (h.tok t ht).trans (k.tok t (Nat.lt_of_lt_of_le ht h.nx)), fun r t e => k.cch r t (h.cch r t e)⟩

theorem tokMono.keep {x y : Option (Nat × Nat × Nat)} {n b c m : Nat} (h : tokMono x y) (e : y = some (b, c, m))
    {p : Nat → Nat → Prop} (k : ∀ b c m, x = some (b, c, m) → n ≤ m ∧ (n = m → p b c)) : n ≤ m ∧ (n = m → p b c) := by
  rcases h with h | ⟨b1, c1, n1, b2, c2, n2, e1, e2, hn, hs⟩
  · rw [h] at e; cases e
  · rw [e2] at e; cases e
    obtain ⟨k1, k2⟩ := k _ _ _ e1
    refine ⟨Nat.le_trans k1 hn, fun q => ?_⟩
    have q1 : n1 = m := by omega
    obtain ⟨r1, r2⟩ := hs q1
    rw [r1, r2]
    exact k2 (by omega)

theorem Rep.mono {g g' : Gh} (x : Ext g g') {v : Value} {a : AV} (h : Rep g v a) : Rep g' v a := by
  induction h with
  | lit h => exact .lit h
  | agg h0 h _ ih => exact .agg h0 h ih
  | tup h _ ih => exact .tup h ih
  | vecN => exact .vecN
  | vecE h => exact .vecE h
  | vec f h1 h2 h3 h4 _ ih => exact .vec f h1 h2 h3 (fun i x' j a e1 e2 => x.mem _ _ _ (h4 i x' j a e1 e2)) ih
  | pp f h1 _ ih => exact .pp f (fun j a e => x.mem _ _ _ (h1 j a e)) ih
  | ptr h1 h2 => exact .ptr (Nat.lt_of_lt_of_le h1 x.nx) (fun b e => h2 b (by rw [← x.box _ h1]; exact e))
  | @own a n cap t h1 h2 => exact .own (Nat.lt_of_lt_of_le h1 x.nx) (fun b c m e => (x.tok _ h1).keep (p := fun b c => a = some ⟨b, 0, none⟩ ∧ cap = c) e h2)
  | @ep a t n s i off h1 h2 => exact .ep (Nat.lt_of_lt_of_le h1 x.nx) (fun b c m e => (x.tok _ h1).keep (p := fun b _ => a = ⟨b, i * s + off, none⟩) e h2)
  | fn h1 _ h3 _ ih1 ih2 => exact .fn h1 ih1 h3 ih2
  | ifc _ ih => exact .ifc ih
  | mp h1 => exact .mp (x.cch _ _ h1)
  | np f h0 h1 _ ih => exact .np f (x.cch _ _ h0) (fun j a e => x.mem _ _ _ (h1 j a e)) ih

/-- Two rows, place by place. -/
def RepL (g : Gh) (vs : List Value) (as : List AV) : Prop := vs.length = as.length ∧ ∀ (i : Nat) (c : Value) (a : AV), vs[i]? = some c → as[i]? = some a → Rep g c a

theorem RepL.mono {g g' : Gh} (x : Ext g g') {vs : List Value} {as : List AV} (h : RepL g vs as) : RepL g' vs as := ⟨h.1, fun i c a e1 e2 => (h.2 i c a e1 e2).mono x⟩
theorem RepL.nil {g : Gh} : RepL g [] [] := ⟨rfl, fun i c a e => by simp at e⟩
theorem RepL.cons {g : Gh} {v : Value} {a : AV} {vs : List Value} {as : List AV} (h : Rep g v a) (k : RepL g vs as) : RepL g (v :: vs) (a :: as) := by
  refine ⟨by simp [k.1], fun i c b e1 e2 => ?_⟩
  cases i with
  | zero => simp at e1 e2; subst e1; subst e2; exact h
  | succ i => simp at e1 e2; exact k.2 i c b e1 e2
theorem RepL.append {g : Gh} {vs us : List Value} {as bs : List AV} (h : RepL g vs as) (k : RepL g us bs) : RepL g (vs ++ us) (as ++ bs) := by
  induction vs generalizing as with
  | nil => cases as with
    | nil => simpa using k
    | cons a as => exact absurd h.1 (by simp)
  | cons v vs ih => cases as with
    | nil => exact absurd h.1 (by simp)
    | cons a as => exact .cons (h.2 0 v a rfl rfl) (ih ⟨by have := h.1; simp at this; exact this, fun i c b e1 e2 => h.2 (i + 1) c b (by simpa using e1) (by simpa using e2)⟩)
theorem RepL.head {g : Gh} {v : Value} {a : AV} {vs : List Value} {as : List AV} (h : RepL g (v :: vs) (a :: as)) : Rep g v a := h.2 0 v a rfl rfl
theorem RepL.tail {g : Gh} {v : Value} {a : AV} {vs : List Value} {as : List AV} (h : RepL g (v :: vs) (a :: as)) : RepL g vs as :=
  ⟨by have := h.1; simp at this; exact this, fun i c b e1 e2 => h.2 (i + 1) c b (by simpa using e1) (by simpa using e2)⟩
theorem RepL.agg {g : Gh} {cs : Array Value} {as : List AV} (h1 : ∀ c ∈ cs.toList, c.oneCell' = true) (h : RepL g cs.toList as) : Rep g (.agg cs) (.agg as) := .agg h1 h.1 h.2
theorem RepL.of_agg {g : Gh} {v : Value} {as : List AV} (h : Rep g v (.agg as)) : ∃ cs : Array Value, v = .agg cs ∧ RepL g cs.toList as ∧ ∀ c ∈ cs.toList, c.oneCell' = true := by
  cases h with | agg h0 h1 h2 => exact ⟨_, rfl, ⟨h1, h2⟩, h0⟩
/-- The cells of a value. -/
def AV.cells : AV → Option (List AV)
  | .agg cs => some cs
  | .tup _ => none
  | a => some [a]
theorem Rep.cells {g : Gh} {v : Value} {a : AV} (h : Rep g v a) {cs : List AV} (e : a.cells = some cs) : RepL g v.cells.toList cs ∧ ∀ c ∈ v.cells.toList, c.oneCell' = true := by
  cases h with
  | agg h0 h1 h2 => simp only [AV.cells, Option.some.injEq] at e; subst e; exact ⟨⟨h1, h2⟩, h0⟩
  | tup h1 h2 => simp [AV.cells] at e
  | lit hp =>
    simp only [AV.cells, Option.some.injEq] at e; subst e
    cases v <;> simp only [plain] at hp <;> first | (cases hp; done) | exact ⟨.cons (.lit (by first | rfl | exact hp)) .nil, by simp [Value.cells, Value.oneCell']⟩
  | vecN => simp only [AV.cells, Option.some.injEq] at e; subst e; exact ⟨.cons .vecN .nil, by simp [Value.cells, Value.oneCell']⟩
  | vecE h => simp only [AV.cells, Option.some.injEq] at e; subst e; exact ⟨.cons (.vecE h) .nil, by simp [Value.cells, Value.oneCell']⟩
  | vec f h1 h2 h3 h4 h5 => simp only [AV.cells, Option.some.injEq] at e; subst e; exact ⟨.cons (.vec f h1 h2 h3 h4 h5) .nil, by simp [Value.cells, Value.oneCell']⟩
  | pp f h1 h2 => simp only [AV.cells, Option.some.injEq] at e; subst e; exact ⟨.cons (.pp f h1 h2) .nil, by simp [Value.cells, Value.oneCell']⟩
  | ptr h1 h2 => simp only [AV.cells, Option.some.injEq] at e; subst e; exact ⟨.cons (.ptr h1 h2) .nil, by simp [Value.cells, Value.oneCell']⟩
  | own h1 h2 => simp only [AV.cells, Option.some.injEq] at e; subst e; exact ⟨.cons (.own h1 h2) .nil, by simp [Value.cells, Value.oneCell']⟩
  | ep h1 h2 => simp only [AV.cells, Option.some.injEq] at e; subst e; exact ⟨.cons (.ep h1 h2) .nil, by simp [Value.cells, Value.oneCell']⟩
  | fn h1 h2 h3 h4 => simp only [AV.cells, Option.some.injEq] at e; subst e; exact ⟨.cons (.fn h1 h2 h3 h4) .nil, by simp [Value.cells, Value.oneCell']⟩
  | ifc h1 => simp only [AV.cells, Option.some.injEq] at e; subst e; exact ⟨.cons (.ifc h1) .nil, by simp [Value.cells, Value.oneCell']⟩
  | mp h1 => simp only [AV.cells, Option.some.injEq] at e; subst e; exact ⟨.cons (.mp h1) .nil, by simp [Value.cells, Value.oneCell']⟩
  | np f h0 h1 h2 => simp only [AV.cells, Option.some.injEq] at e; subst e; exact ⟨.cons (.np f h0 h1 h2) .nil, by simp [Value.cells, Value.oneCell']⟩

/-- Look-ups in short tables. -/
def lk {α : Type} : List (Nat × α) → Nat → Option α
  | [], _ => none
  | (k, v) :: l, i => if k = i then some v else lk l i
def up {α : Type} : List (Nat × α) → Nat → α → List (Nat × α)
  | [], _, _ => []
  | (k, v) :: l, i, x => if k = i then (k, x) :: l else (k, v) :: up l i x
def dl {α : Type} : List (Nat × α) → Nat → List (Nat × α)
  | [], _ => []
  | (k, v) :: l, i => if k = i then dl l i else (k, v) :: dl l i

theorem lk_up {α : Type} (l : List (Nat × α)) (i j : Nat) (x : α) : lk (up l i x) j = if i = j then (lk l i).map fun _ => x else lk l j := by
  induction l with
  | nil => simp [up, lk]
  | cons p l ih =>
    obtain ⟨k, v⟩ := p
    by_cases h : k = i
    · subst h; simp only [up, lk, if_true]; split <;> simp
    · simp only [up, lk, if_neg h]
      by_cases hk : k = j
      · subst hk; simp only [if_true]; rw [if_neg (fun e => h e.symm)]
      · simp [hk, ih]
theorem lk_dl {α : Type} (l : List (Nat × α)) (i j : Nat) : lk (dl l i) j = if i = j then none else lk l j := by
  induction l with
  | nil => simp [dl, lk]
  | cons p l ih =>
    obtain ⟨k, v⟩ := p
    by_cases h : k = i
    · subst h; simp only [dl, lk, if_true, ih]; split <;> simp [*]
    · simp only [dl, lk, if_neg h]
      by_cases hk : k = j
      · subst hk; simp only [if_true]; rw [if_neg (fun e => h e.symm)]
      · simp [hk, ih]
theorem lk_snoc {α : Type} (l : List (Nat × α)) (i : Nat) (x : α) (j : Nat) : lk (l ++ [(i, x)]) j = (lk l j).or (if i = j then some x else none) := by
  induction l with
  | nil => simp [lk]
  | cons p l ih => obtain ⟨k, v⟩ := p; by_cases h : k = j <;> simp [lk, h, ih]

/-- An owned slice: its rows; how many of them are never written again; the cells of a row. -/
structure Tk where
  xs : List (List AV)
  fz : Nat
  s : Nat

/-- What a map holds: keys and elements, in the order in which they came. -/
structure Hp where
  boxes : List (Nat × List AV)
  toks : List (Nat × Tk)
  nx : Nat

def Hp.none : Hp := ⟨[], [], 0⟩

/-- The ghost of cells alone. -/
def gm (m : Nat → Nat → Option Value) : Gh := ⟨m, fun _ => none, fun _ => none, 0, fun _ => none⟩
theorem Ext.gm {m m' : Nat → Nat → Option Value} (h : ∀ b o v, m b o = some v → m' b o = some v) : Ext (gm m) (gm m') := ⟨Nat.le_refl _, h, fun _ _ => rfl, fun _ _ => tokMono.refl _, fun _ _ e => e⟩
theorem Ext.gm_up (g : Gh) : Ext (Go.Ab.gm g.mem) g := ⟨Nat.zero_le _, fun _ _ _ e => e, fun _ h => absurd h (Nat.not_lt_zero _), fun _ h => absurd h (Nat.not_lt_zero _), fun _ _ e => (nomatch e)⟩
/-- The ghost of cells, and of caches, alone. -/
def gc (g : Gh) : Gh := ⟨g.mem, fun _ => none, fun _ => none, 0, g.cch⟩
theorem Ext.gc {g g' : Gh} (h : ∀ b o v, g.mem b o = some v → g'.mem b o = some v) (k : ∀ r t, g.cch r = some t → g'.cch r = some t) : Ext (gc g) (gc g') := ⟨Nat.le_refl _, h, fun _ _ => rfl, fun _ _ => tokMono.refl _, k⟩
theorem Ext.gc_up (g : Gh) : Ext (Go.Ab.gc g) g := ⟨Nat.zero_le _, fun _ _ _ e => e, fun _ h => absurd h (Nat.not_lt_zero _), fun _ h => absurd h (Nat.not_lt_zero _), fun _ _ e => e⟩
/-- A map that is a cache: what it holds is of its kind. -/
def CchOk (g : Gh) (t : Nat) (es : Array MapEntry) : Prop := ∀ e ∈ es.toList, ∃ ka va, cinv t ka va ∧ Rep (gc g) e.key ka ∧ Rep (gc g) e.val va
theorem CchOk.mono {g g' : Gh} (x : ∀ b o v, g.mem b o = some v → g'.mem b o = some v) (y : ∀ r t, g.cch r = some t → g'.cch r = some t) {t : Nat} {es : Array MapEntry} (h : CchOk g t es) : CchOk g' t es := fun e he => by
  obtain ⟨ka, va, h1, h2, h3⟩ := h e he
  exact ⟨ka, va, h1, h2.mono (.gc x y), h3.mono (.gc x y)⟩

structure HRel (g : Gh) (h : Hp) (w : World) : Prop where
  nx : g.nx = h.nx
  mem : ∀ b o v, g.mem b o = some v → w.cell? ⟨b, o, none⟩ = some v ∧ v.oneCell' = true
  box : ∀ id cs, lk h.boxes id = some cs → ∃ b vs e, g.box id = some b ∧ w.heap[b]? = some (.cells vs e (0, 0)) ∧ RepL g vs.toList cs ∧ (∀ v ∈ vs.toList, v.oneCell' = true) ∧ ∀ o, g.mem b o = Option.none
  tok : ∀ t k, lk h.toks t = some k → ∃ b c vs e, g.tok t = some (b, c, k.xs.length) ∧ w.heap[b]? = some (.cells vs e (0, 0)) ∧ vs.size = c * k.s ∧ k.xs.length ≤ c ∧ k.fz ≤ k.xs.length ∧
      (∀ x ∈ k.xs, x.length = k.s) ∧ (∀ (i : Nat) (x : List AV) (j : Nat) (a : AV), k.xs[i]? = some x → x[j]? = some a → ∃ v, vs[i * k.s + j]? = some v ∧ Rep g v a) ∧ (∀ v ∈ vs.toList, v.oneCell' = true) ∧ (∀ o, k.fz * k.s ≤ o → g.mem b o = Option.none)
  bxbx : ∀ i j b, g.box i = some b → g.box j = some b → (lk h.boxes i).isSome = true → (lk h.boxes j).isSome = true → i = j
  tktk : ∀ i j b c n c' n', g.tok i = some (b, c, n) → g.tok j = some (b, c', n') → (lk h.toks i).isSome = true → (lk h.toks j).isSome = true → i = j
  bxtk : ∀ i j b c n, g.box i = some b → g.tok j = some (b, c, n) → (lk h.boxes i).isSome = true → (lk h.toks j).isSome = true → False
  fresh : ∀ i, h.nx ≤ i → g.box i = Option.none ∧ g.tok i = Option.none
  cch : ∀ r t, g.cch r = some (t + 1) → ∃ es k, w.heap[r]? = some (.map es k) ∧ CchOk g t es
  cel : ∀ b, g.cch b = some 0 → ∃ vs e, w.heap[b]? = some (.cells vs e (0, 0))

/-- The blocks that a heap may still write. -/
def Live (g : Gh) (h : Hp) (b : Nat) : Prop := (∃ id cs, lk h.boxes id = some cs ∧ g.box id = some b) ∨ (∃ t k c n, lk h.toks t = some k ∧ g.tok t = some (b, c, n)) ∨ ∃ t, g.cch b = some (t + 1)

/-- Of the blocks of w0 none has turned, but those of F. -/
structure Keeps (F : Nat → Prop) (w0 w : World) : Prop where
  os : w.os = w0.os
  tape : w.tape = w0.tape
  output : w.output = w0.output
  drawn : w0.drawn ≤ w.drawn
  size : w0.heap.size ≤ w.heap.size
  block : ∀ b, b < w0.heap.size → ¬ F b → w.heap[b]? = w0.heap[b]?

theorem Keeps.refl (F : Nat → Prop) (w : World) : Keeps F w w := ⟨rfl, rfl, rfl, Nat.le_refl _, Nat.le_refl _, fun _ _ _ => rfl⟩
theorem Keeps.trans {F G : Nat → Prop} {a b c : World} (h : Keeps F a b) (k : Keeps G b c) (hG : ∀ x, G x → F x ∨ a.heap.size ≤ x) : Keeps F a c :=
  ⟨k.os.trans h.os, k.tape.trans h.tape, k.output.trans h.output, Nat.le_trans h.drawn k.drawn, Nat.le_trans h.size k.size, fun x hx hF => by
    refine (k.block x (Nat.lt_of_lt_of_le hx h.size) (fun hg => ?_)).trans (h.block x hx hF)
    rcases hG x hg with h1 | h1
    · exact hF h1
    · omega⟩
/-! Short names of rules of the core. -/
theorem Yaa : type_of% @List.map_cons := @List.map_cons
theorem Yab : type_of% @List.map_nil := @List.map_nil
theorem Yac : type_of% @Option.bind_some := @Option.bind_some
theorem Yad : type_of% @Option.bind_none := @Option.bind_none
theorem Yae : type_of% @Option.map_some := @Option.map_some
theorem Yaf : type_of% @Option.map_none := @Option.map_none
theorem Yag : type_of% @List.getElem?_toArray := @List.getElem?_toArray
theorem Yah : type_of% @List.getElem?_cons_succ := @List.getElem?_cons_succ
theorem Yai : type_of% @List.getElem?_cons_zero := @List.getElem?_cons_zero
theorem Yaj : type_of% @List.length_cons := @List.length_cons
theorem Yak : type_of% @List.length_nil := @List.length_nil
theorem Yal : type_of% @List.drop_succ_cons := @List.drop_succ_cons
theorem Yam : type_of% @List.drop_zero := @List.drop_zero
theorem Yan : type_of% @List.drop_nil := @List.drop_nil
theorem Yao : type_of% @List.take_succ_cons := @List.take_succ_cons
theorem Yap : type_of% @List.take_zero := @List.take_zero
theorem Yaq : type_of% @List.take_nil := @List.take_nil
theorem Yar : type_of% @List.cons_append := @List.cons_append
theorem Yas : type_of% @List.nil_append := @List.nil_append
theorem Yat : type_of% @List.append_nil := @List.append_nil
theorem Yau : type_of% @List.set_cons_succ := @List.set_cons_succ
theorem Yav : type_of% @List.set_cons_zero := @List.set_cons_zero
theorem Yaw : type_of% @List.replicate_succ := @List.replicate_succ
theorem Yax : type_of% @List.replicate_zero := @List.replicate_zero
theorem Yay : type_of% @Nat.zero_add := @Nat.zero_add
theorem Yaz : type_of% @Nat.add_zero := @Nat.add_zero
theorem Yba : type_of% @Bool.not_true := @Bool.not_true
theorem Ybb : type_of% @Bool.not_false := @Bool.not_false
theorem Ybc : type_of% @Nat.le_refl := @Nat.le_refl
theorem Ybd : type_of% @Nat.one_ne_zero := @Nat.one_ne_zero
theorem Yzz : (type_of% @and_self) ∧ (type_of% @and_true) ∧ (type_of% @true_and) ∧ (type_of% @not_false_eq_true) ∧ (type_of% @not_true_eq_false) ∧ (type_of% @true_or) ∧ (type_of% @or_true) ∧ (type_of% @false_or) ∧ (type_of% @or_false) := ⟨@and_self, @and_true, @true_and, @not_false_eq_true, @not_true_eq_false, @true_or, @or_true, @false_or, @or_false⟩
end Go.Ab
