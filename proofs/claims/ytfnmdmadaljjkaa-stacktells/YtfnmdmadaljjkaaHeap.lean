/- What the run may do to memory, step by step, in the words of the abstract machine: a new variable, a store, a new row that stays, an owned slice. Conditions: those that each theorem names. -/
import Derived.Test.YtfnmdmadaljjkaaCore
import Derived.Deep.MidRow
namespace Go.Ab

theorem cell_of_block {w : World} {b o : Nat} {vs : Array Value} {e : TypeId} {fr : Nat × Nat} (h : w.heap[b]? = some (.cells vs e fr)) : w.cell? ⟨b, o, none⟩ = vs[o]? := by
  simp [World.cell?, h]

theorem block_lt {w : World} {b : Nat} {o : Obj} (h : w.heap[b]? = some o) : b < w.heap.size := (Array.getElem?_eq_some_iff.1 h).1

/-- Caches stay, where their blocks stay. -/
theorem HRel.cchUp {g g' : Gh} {h : Hp} {w w' : World} (r : HRel g h w) (x : Ext g g') (hc : g'.cch = g.cch) (hw : ∀ (b : Nat) es k, w.heap[b]? = some (.map es k) → w'.heap[b]? = some (.map es k)) :
    ∀ b t, g'.cch b = some (t + 1) → ∃ es k, w'.heap[b]? = some (.map es k) ∧ CchOk g' t es := fun b t e => by
  rw [hc] at e
  obtain ⟨es, k, e1, e2⟩ := r.cch b t e
  exact ⟨es, k, hw b es k e1, e2.mono x.mem x.cch⟩
theorem HRel.celUp {g g' : Gh} {h : Hp} {w w' : World} (r : HRel g h w) (hc : g'.cch = g.cch) (hw : ∀ (b : Nat) vs e, w.heap[b]? = some (.cells vs e (0, 0)) → ∃ vs' e', w'.heap[b]? = some (.cells vs' e' (0, 0))) :
    ∀ b, g'.cch b = some 0 → ∃ vs e, w'.heap[b]? = some (.cells vs e (0, 0)) := fun b e => by
  rw [hc] at e
  obtain ⟨vs, ty, e1⟩ := r.cel b e
  exact hw b vs ty e1

theorem HRel.drew {g : Gh} {h : Hp} {w : World} (r : HRel g h w) : HRel g h w.drew := ⟨r.nx, r.mem, r.box, r.tok, r.bxbx, r.tktk, r.bxtk, r.fresh, r.cch, r.cel⟩

/-- A heap that knows less. -/
theorem HRel.less {g : Gh} {h h' : Hp} {w : World} (r : HRel g h w) (hn : h'.nx = h.nx) (hb : ∀ i c, lk h'.boxes i = some c → lk h.boxes i = some c) (ht : ∀ i c, lk h'.toks i = some c → lk h.toks i = some c) : HRel g h' w := by
  have sb : ∀ i, (lk h'.boxes i).isSome = true → (lk h.boxes i).isSome = true := fun i e => by
    obtain ⟨c, hc⟩ := Option.isSome_iff_exists.1 e; rw [hb i c hc]; rfl
  have st : ∀ i, (lk h'.toks i).isSome = true → (lk h.toks i).isSome = true := fun i e => by
    obtain ⟨c, hc⟩ := Option.isSome_iff_exists.1 e; rw [ht i c hc]; rfl
  exact ⟨r.nx.trans hn.symm, r.mem, fun id cs e => r.box id cs (hb id cs e), fun t k e => r.tok t k (ht t k e),
    fun i j b e1 e2 e3 e4 => r.bxbx i j b e1 e2 (sb i e3) (sb j e4), fun i j b c n c' n' e1 e2 e3 e4 => r.tktk i j b c n c' n' e1 e2 (st i e3) (st j e4),
    fun i j b c n e1 e2 e3 e4 => r.bxtk i j b c n e1 e2 (sb i e3) (st j e4), fun i e => r.fresh i (hn ▸ e), r.cch, r.cel⟩

theorem Live.less {g : Gh} {h h' : Hp} (hb : ∀ i c, lk h'.boxes i = some c → lk h.boxes i = some c) (ht : ∀ i c, lk h'.toks i = some c → lk h.toks i = some c) {b : Nat} (l : Live g h' b) : Live g h b := by
  rcases l with ⟨id, cs, e1, e2⟩ | ⟨t, k, c, n, e1, e2⟩ | e1
  · exact .inl ⟨id, cs, hb _ _ e1, e2⟩
  · exact .inr (.inl ⟨t, k, c, n, ht _ _ e1, e2⟩)
  · exact .inr (.inr e1)

theorem HRel.box_lt {g : Gh} {h : Hp} {w : World} (r : HRel g h w) {id : Nat} {cs : List AV} (e : lk h.boxes id = some cs) : id < h.nx := by
  obtain ⟨b, vs, ty, e1, _⟩ := r.box id cs e
  rcases Nat.lt_or_ge id h.nx with h1 | h1
  · exact h1
  · rw [(r.fresh id h1).1] at e1; cases e1
theorem HRel.tok_lt {g : Gh} {h : Hp} {w : World} (r : HRel g h w) {t : Nat} {k : Tk} (e : lk h.toks t = some k) : t < h.nx := by
  obtain ⟨b, c, vs, ty, e1, _⟩ := r.tok t k e
  rcases Nat.lt_or_ge t h.nx with h1 | h1
  · exact h1
  · rw [(r.fresh t h1).2] at e1; cases e1

theorem heap_alloc {w : World} {o : Obj} {b : Nat} {x : Obj} (h : w.heap[b]? = some x) : (w.alloc o).heap[b]? = some x := (heap_alloc_old w o (block_lt h)).trans h

theorem cell_alloc {w : World} {o : Obj} {a : Addr} {v : Value} (h : w.cell? a = some v) : (w.alloc o).cell? a = some v := by
  rw [World.cell?_alloc_lt w o a (World.block_lt_of_cell? w a h)]; exact h

/-- What is said of old names and old blocks stands when a block is added. -/
theorem HRel.push {g : Gh} {h : Hp} {w : World} (r : HRel g h w) (o : Obj) (g' : Gh) (x : Ext g g') (hnx : g'.nx = g.nx) (hm : ∀ b o, b < w.heap.size → g'.mem b o = g.mem b o)
    (hnew : ∀ o' v, g'.mem w.heap.size o' = some v → (w.alloc o).cell? ⟨w.heap.size, o', none⟩ = some v ∧ v.oneCell' = true) (hno : ∀ b o', w.heap.size < b → g'.mem b o' = none)
    (hbx : g'.box = g.box) (htk : g'.tok = g.tok) (hcc : g'.cch = g.cch) : HRel g' h (w.alloc o) := by
  refine ⟨hnx.trans r.nx, fun b o' v e => ?_, fun id cs e => ?_, fun t k e => ?_, ?_, ?_, ?_, ?_, r.cchUp x hcc (fun b es k e => heap_alloc e), r.celUp hcc (fun b vs e q => ⟨vs, e, heap_alloc q⟩)⟩
  · rcases Nat.lt_trichotomy b w.heap.size with h1 | h1 | h1
    · rw [hm b o' h1] at e
      obtain ⟨e1, e2⟩ := r.mem b o' v e
      exact ⟨cell_alloc e1, e2⟩
    · subst h1; exact hnew o' v e
    · rw [hno b o' h1] at e; cases e
  · obtain ⟨b, vs, ty, e1, e2, e3, e4, e5⟩ := r.box id cs e
    exact ⟨b, vs, ty, by rw [hbx]; exact e1, heap_alloc e2, e3.mono x, e4, fun o' => by rw [hm b o' (block_lt e2)]; exact e5 o'⟩
  · obtain ⟨b, c, vs, ty, e1, e2, e3, e4, e5, e6, e7, e8, e9⟩ := r.tok t k e
    refine ⟨b, c, vs, ty, by rw [htk]; exact e1, heap_alloc e2, e3, e4, e5, e6, fun i y j a f1 f2 => ?_, e8, fun o' ho => by rw [hm b o' (block_lt e2)]; exact e9 o' ho⟩
    obtain ⟨v, f3, f4⟩ := e7 i y j a f1 f2
    exact ⟨v, f3, f4.mono x⟩
  · rw [hbx]; exact r.bxbx
  · rw [htk]; exact r.tktk
  · rw [hbx, htk]; exact r.bxtk
  · rw [hbx, htk]; exact r.fresh

/-- No ghost cell lies beyond memory. -/
theorem HRel.mem_lt {g : Gh} {h : Hp} {w : World} (r : HRel g h w) {b o : Nat} {v : Value} (e : g.mem b o = some v) : b < w.heap.size := World.block_lt_of_cell? w ⟨b, o, none⟩ (r.mem b o v e).1
theorem HRel.mem_none {g : Gh} {h : Hp} {w : World} (r : HRel g h w) {b : Nat} (o : Nat) (hb : w.heap.size ≤ b) : g.mem b o = none := by
  cases e : g.mem b o with
  | none => rfl
  | some v => have := r.mem_lt e; omega

/-- Names that are still free. -/
def Gh.skip (g : Gh) (n : Nat) : Gh := { g with nx := g.nx + n }
theorem Ext.skip (g : Gh) (n : Nat) : Ext g (g.skip n) := ⟨Nat.le_add_right _ _, fun _ _ _ h => h, fun _ _ => rfl, fun _ _ => tokMono.refl _, fun _ _ h => h⟩

/-- A new variable. -/
def Gh.addBox (g : Gh) (b : Nat) : Gh := { g with box := fun i => if i = g.nx then some b else g.box i, nx := g.nx + 1 }
theorem Ext.addBox (g : Gh) (b : Nat) : Ext g (g.addBox b) :=
  ⟨Nat.le_succ _, fun _ _ _ h => h, fun id hi => by simp [Gh.addBox, Nat.ne_of_lt hi], fun _ _ => tokMono.refl _, fun _ _ h => h⟩

theorem lk_snoc_old {α : Type} {l : List (Nat × α)} {i j : Nat} {x : α} (h : j ≠ i) : lk (l ++ [(i, x)]) j = lk l j := by
  rw [lk_snoc, if_neg (fun e => h e.symm)]; simp
theorem lk_snoc_new {α : Type} {l : List (Nat × α)} {i : Nat} {x : α} (h : lk l i = none) : lk (l ++ [(i, x)]) i = some x := by
  rw [lk_snoc, h]; simp

theorem HRel.lk_fresh_box {g : Gh} {h : Hp} {w : World} (r : HRel g h w) : lk h.boxes h.nx = none := by
  cases e : lk h.boxes h.nx with
  | none => rfl
  | some c => exact absurd (r.box_lt e) (Nat.lt_irrefl _)
theorem HRel.lk_fresh_tok {g : Gh} {h : Hp} {w : World} (r : HRel g h w) : lk h.toks h.nx = none := by
  cases e : lk h.toks h.nx with
  | none => rfl
  | some c => exact absurd (r.tok_lt e) (Nat.lt_irrefl _)

theorem HRel.addBox {g : Gh} {h : Hp} {w : World} (r : HRel g h w) (vs : Array Value) (ty : TypeId) (cs : List AV) (hc : RepL g vs.toList cs) (h1 : ∀ v ∈ vs.toList, v.oneCell' = true) :
    HRel (g.addBox w.heap.size) { h with boxes := h.boxes ++ [(h.nx, cs)], nx := h.nx + 1 } (w.alloc (.cells vs ty)) := by
  have hx := Ext.addBox g w.heap.size
  have hg : g.nx = h.nx := r.nx
  have hbox : ∀ i, (g.addBox w.heap.size).box i = if i = h.nx then some w.heap.size else g.box i := fun i => by simp [Gh.addBox, hg]
  have old : ∀ i c, lk (h.boxes ++ [(h.nx, cs)]) i = some c → i ≠ h.nx → lk h.boxes i = some c := fun i c e hi => by rwa [lk_snoc_old hi] at e
  have oldS : ∀ i, (lk (h.boxes ++ [(h.nx, cs)]) i).isSome = true → i ≠ h.nx → (lk h.boxes i).isSome = true := fun i e hi => by rwa [lk_snoc_old hi] at e
  have bl : ∀ i, (lk h.boxes i).isSome = true → ∀ b, g.box i = some b → b < w.heap.size := fun i e b eb => by
    obtain ⟨c, hc⟩ := Option.isSome_iff_exists.1 e
    obtain ⟨b', vs', ty', e1, e2, _⟩ := r.box i c hc
    rw [e1] at eb; cases eb; exact block_lt e2
  have tl : ∀ i, (lk h.toks i).isSome = true → ∀ b c n, g.tok i = some (b, c, n) → b < w.heap.size := fun i e b c n eb => by
    obtain ⟨k, hc⟩ := Option.isSome_iff_exists.1 e
    obtain ⟨b', c', vs', ty', e1, e2, _⟩ := r.tok i k hc
    rw [e1] at eb; cases eb; exact block_lt e2
  refine ⟨by simp [Gh.addBox, hg], fun b o v e => ?_, fun id c e => ?_, fun t k e => ?_, fun i j b e1 e2 e3 e4 => ?_, fun i j b c n c' n' e1 e2 e3 e4 => r.tktk i j b c n c' n' e1 e2 e3 e4, fun i j b c n e1 e2 e3 e4 => ?_, fun i e => ?_, r.cchUp hx rfl (fun b es k e => heap_alloc e), r.celUp rfl (fun b vs e q => ⟨vs, e, heap_alloc q⟩)⟩
  · obtain ⟨f1, f2⟩ := r.mem b o v e
    exact ⟨cell_alloc f1, f2⟩
  · by_cases hi : id = h.nx
    · subst hi
      rw [lk_snoc_new r.lk_fresh_box] at e
      cases e
      exact ⟨w.heap.size, vs, ty, by rw [hbox, if_pos rfl], heap_alloc_new w _, hc.mono hx, h1, fun o => r.mem_none o (Nat.le_refl _)⟩
    · obtain ⟨b, vs', ty', f1, f2, f3, f4, f5⟩ := r.box id c (old id c e hi)
      exact ⟨b, vs', ty', by rw [hbox, if_neg hi]; exact f1, heap_alloc f2, f3.mono hx, f4, f5⟩
  · obtain ⟨b, c, vs', ty', f1, f2, f3, f4, f5, f6, f7, f8, f9⟩ := r.tok t k e
    refine ⟨b, c, vs', ty', f1, heap_alloc f2, f3, f4, f5, f6, fun i y j a g1 g2 => ?_, f8, f9⟩
    obtain ⟨v, g3, g4⟩ := f7 i y j a g1 g2
    exact ⟨v, g3, g4.mono hx⟩
  · rw [hbox] at e1 e2
    by_cases hi : i = h.nx <;> by_cases hj : j = h.nx
    · rw [hi, hj]
    · rw [if_pos hi] at e1; rw [if_neg hj] at e2; cases e1
      have := bl j (oldS j e4 hj) _ e2; omega
    · rw [if_neg hi] at e1; rw [if_pos hj] at e2; cases e2
      have := bl i (oldS i e3 hi) _ e1; omega
    · rw [if_neg hi] at e1; rw [if_neg hj] at e2
      exact r.bxbx i j b e1 e2 (oldS i e3 hi) (oldS j e4 hj)
  · rw [hbox] at e1
    by_cases hi : i = h.nx
    · rw [if_pos hi] at e1; cases e1
      have := tl j e4 _ _ _ e2; omega
    · rw [if_neg hi] at e1
      exact r.bxtk i j b c n e1 e2 (oldS i e3 hi) e4
  · have hi : h.nx ≤ i := Nat.le_of_succ_le e
    have hne : i ≠ h.nx := fun q => by subst q; exact absurd e (Nat.not_succ_le_self _)
    exact ⟨by rw [hbox, if_neg hne]; exact (r.fresh i hi).1, (r.fresh i hi).2⟩

theorem Live.addBox {g : Gh} {h : Hp} {w : World} (r : HRel g h w) {cs : List AV} {b : Nat} (l : Live (g.addBox w.heap.size) { h with boxes := h.boxes ++ [(h.nx, cs)], nx := h.nx + 1 } b) : Live g h b ∨ w.heap.size ≤ b := by
  have hg : g.nx = h.nx := r.nx
  rcases l with ⟨id, c, e1, e2⟩ | ⟨t, k, c, n, e1, e2⟩ | e1
  · by_cases hi : id = h.nx
    · simp [Gh.addBox, hg, hi] at e2; exact .inr (by omega)
    · simp only [Gh.addBox, hg, if_neg hi] at e2
      exact .inl (.inl ⟨id, c, by rwa [lk_snoc_old hi] at e1, e2⟩)
  · exact .inl (.inr (.inl ⟨t, k, c, n, e1, e2⟩))
  · exact .inl (.inr (.inr e1))

/-- A new row of cells that are never written. -/
def Gh.addRow (g : Gh) (b : Nat) (vs : Array Value) : Gh := { g with mem := fun b' o => if b' = b then vs[o]? else g.mem b' o }
theorem HRel.ext_row {g : Gh} {h : Hp} {w : World} (r : HRel g h w) (vs : Array Value) : Ext g (g.addRow w.heap.size vs) :=
  ⟨Nat.le_refl _, fun b o v e => by
    have hb : b ≠ w.heap.size := Nat.ne_of_lt (r.mem_lt e)
    simp [Gh.addRow, hb, e], fun _ _ => rfl, fun _ _ => tokMono.refl _, fun _ _ h => h⟩
theorem HRel.addRow {g : Gh} {h : Hp} {w : World} (r : HRel g h w) (vs : Array Value) (ty : TypeId) (h1 : ∀ v ∈ vs.toList, v.oneCell' = true) : HRel (g.addRow w.heap.size vs) h (w.alloc (.cells vs ty)) :=
  r.push _ _ (r.ext_row vs) rfl (fun b o hb => by simp [Gh.addRow, Nat.ne_of_lt hb]) (fun o v e => by
      simp only [Gh.addRow, if_true] at e
      exact ⟨by rw [World.cell?_alloc_new]; exact e, h1 v (by simpa using Array.mem_of_getElem? e)⟩)
    (fun b o hb => by simp only [Gh.addRow, if_neg (Nat.ne_of_gt hb)]; exact r.mem_none o (Nat.le_of_lt hb)) rfl rfl rfl

/-- A store into a variable. -/
theorem HRel.setBox {g : Gh} {h : Hp} {w : World} (r : HRel g h w) {id : Nat} {cs cs' : List AV} (e : lk h.boxes id = some cs) {b : Nat} (eb : g.box id = some b) (vs' : Array Value)
    (hc : RepL g vs'.toList cs') (h1 : ∀ v ∈ vs'.toList, v.oneCell' = true) : HRel g { h with boxes := up h.boxes id cs' } (w.setRow b vs') := by
  obtain ⟨b0, vs, ty, q1, q2, q3, q4, q5⟩ := r.box id cs e
  rw [q1] at eb; cases eb
  have other : ∀ k x, w.heap[k]? = some x → k ≠ b → (w.setRow b vs').heap[k]? = some x := fun k x hk hne => (setRow_other w b k vs' hne).trans hk
  have some_up : ∀ i, (lk (up h.boxes id cs') i).isSome = (lk h.boxes i).isSome := fun i => by
    rw [lk_up]; by_cases hi : id = i
    · subst hi; simp [e]
    · simp [hi]
  refine ⟨r.nx, fun b' o v e' => ?_, fun i c e' => ?_, fun t k e' => ?_, fun i j b' e1 e2 e3 e4 => ?_, r.tktk, fun i j b' c n e1 e2 e3 e4 => ?_, r.fresh, r.cchUp (.refl g) rfl (fun b' es k e' => other b' _ e' (fun q => by subst q; rw [q2] at e'; cases e')), r.celUp rfl (fun b' vs0 e0 q => (Classical.em (b' = b)).elim (fun q' => ⟨vs', ty, by rw [q']; exact setRow_heap w b vs vs' ty _ q2⟩) (fun q' => ⟨vs0, e0, other b' _ q q'⟩))⟩
  · obtain ⟨f1, f2⟩ := r.mem b' o v e'
    have hne : b' ≠ b := fun q => by subst q; rw [q5] at e'; cases e'
    exact ⟨by rw [World.cell?_of_block (w := w) (setRow_other w b b' vs' hne)]; exact f1, f2⟩
  · rw [lk_up] at e'
    by_cases hi : id = i
    · subst hi
      simp only [if_true, e, Option.map_some, Option.some.injEq] at e'
      subst e'
      exact ⟨b, vs', ty, q1, setRow_heap w b vs vs' ty _ q2, hc, h1, q5⟩
    · rw [if_neg hi] at e'
      obtain ⟨b', vs0, ty0, f1, f2, f3, f4, f5⟩ := r.box i c e'
      refine ⟨b', vs0, ty0, f1, other b' _ f2 (fun q => hi ?_), f3, f4, f5⟩
      subst q
      exact r.bxbx id i b' q1 f1 (by rw [e]; rfl) (by rw [e']; rfl)
  · obtain ⟨b', c, vs0, ty0, f1, f2, f3⟩ := r.tok t k e'
    refine ⟨b', c, vs0, ty0, f1, other b' _ f2 (fun q => ?_), f3⟩
    subst q
    exact r.bxtk id t b' c _ q1 f1 (by rw [e]; rfl) (by rw [e']; rfl)
  · simp only [some_up] at e3 e4; exact r.bxbx i j b' e1 e2 e3 e4
  · simp only [some_up] at e3; exact r.bxtk i j b' c n e1 e2 e3 e4

theorem Live.setBox {g : Gh} {h : Hp} {id : Nat} {cs' : List AV} {b : Nat} (l : Live g { h with boxes := up h.boxes id cs' } b) : Live g h b := by
  rcases l with ⟨i, c, e1, e2⟩ | ⟨t, k, c, n, e1, e2⟩ | e1
  · simp only [lk_up] at e1
    by_cases hi : id = i
    · subst hi
      cases hl : lk h.boxes id with
      | none => simp [hl] at e1
      | some c0 => exact .inl ⟨id, c0, hl, e2⟩
    · rw [if_neg hi] at e1; exact .inl ⟨i, c, e1, e2⟩
  · exact .inr (.inl ⟨t, k, c, n, e1, e2⟩)
  · exact .inr (.inr e1)

theorem Keeps.alloc (F : Nat → Prop) (w : World) (o : Obj) : Keeps F w (w.alloc o) := ⟨rfl, rfl, rfl, Nat.le_refl _, by simp, fun _ hb _ => heap_alloc_old w o hb⟩
theorem Keeps.drew (F : Nat → Prop) (w : World) : Keeps F w w.drew := ⟨rfl, rfl, rfl, Nat.le_succ _, Nat.le_refl _, fun _ _ _ => rfl⟩
theorem Keeps.setRow {F : Nat → Prop} (w : World) {b : Nat} (vs : Array Value) (hb : F b) : Keeps F w (w.setRow b vs) :=
  ⟨rfl, rfl, rfl, Nat.le_refl _, by simp, fun k _ hk => setRow_other w b k vs (fun q => hk (q ▸ hb))⟩

/-- A new owned slice. -/
def Gh.addTok (g : Gh) (b c n : Nat) : Gh := { g with tok := fun i => if i = g.nx then some (b, c, n) else g.tok i, nx := g.nx + 1 }
theorem Ext.addTok (g : Gh) (b c n : Nat) : Ext g (g.addTok b c n) :=
  ⟨Nat.le_succ _, fun _ _ _ h => h, fun _ _ => rfl, fun t ht => by simp only [Gh.addTok, if_neg (Nat.ne_of_lt ht)]; exact tokMono.refl _, fun _ _ h => h⟩

/-- The rows of an owned slice as they lie in its cells. -/
def Lies (g : Gh) (vs : Array Value) (xs : List (List AV)) (s : Nat) : Prop :=
  (∀ x ∈ xs, x.length = s) ∧ ∀ (i : Nat) (x : List AV) (j : Nat) (a : AV), xs[i]? = some x → x[j]? = some a → ∃ v, vs[i * s + j]? = some v ∧ Rep g v a

theorem Lies.mono {g g' : Gh} (x : Ext g g') {vs : Array Value} {xs : List (List AV)} {s : Nat} (h : Lies g vs xs s) : Lies g' vs xs s :=
  ⟨h.1, fun i y j a e1 e2 => let ⟨v, f1, f2⟩ := h.2 i y j a e1 e2; ⟨v, f1, f2.mono x⟩⟩

theorem HRel.tokBlocks {g : Gh} {h : Hp} {w : World} (r : HRel g h w) : ∀ i, (lk h.toks i).isSome = true → ∀ b c n, g.tok i = some (b, c, n) → b < w.heap.size := fun i e b c n eb => by
  obtain ⟨k, hc⟩ := Option.isSome_iff_exists.1 e
  obtain ⟨b', c', vs', ty', e1, e2, _⟩ := r.tok i k hc
  rw [e1] at eb; cases eb; exact block_lt e2
theorem HRel.boxBlocks {g : Gh} {h : Hp} {w : World} (r : HRel g h w) : ∀ i, (lk h.boxes i).isSome = true → ∀ b, g.box i = some b → b < w.heap.size := fun i e b eb => by
  obtain ⟨c, hc⟩ := Option.isSome_iff_exists.1 e
  obtain ⟨b', vs', ty', e1, e2, _⟩ := r.box i c hc
  rw [e1] at eb; cases eb; exact block_lt e2

theorem HRel.addTok {g : Gh} {h : Hp} {w : World} (r : HRel g h w) (vs : Array Value) (ty : TypeId) (xs : List (List AV)) (s c : Nat) (hl : Lies g vs xs s) (h1 : ∀ v ∈ vs.toList, v.oneCell' = true)
    (hs : vs.size = c * s) (hc : xs.length ≤ c) :
    HRel (g.addTok w.heap.size c xs.length) { h with toks := h.toks ++ [(h.nx, ⟨xs, 0, s⟩)], nx := h.nx + 1 } (w.alloc (.cells vs ty)) := by
  have hx := Ext.addTok g w.heap.size c xs.length
  have hg : g.nx = h.nx := r.nx
  have htok : ∀ i, (g.addTok w.heap.size c xs.length).tok i = if i = h.nx then some (w.heap.size, c, xs.length) else g.tok i := fun i => by simp [Gh.addTok, hg]
  have old : ∀ i k, lk (h.toks ++ [(h.nx, (⟨xs, 0, s⟩ : Tk))]) i = some k → i ≠ h.nx → lk h.toks i = some k := fun i k e hi => by rwa [lk_snoc_old hi] at e
  have oldS : ∀ i, (lk (h.toks ++ [(h.nx, (⟨xs, 0, s⟩ : Tk))]) i).isSome = true → i ≠ h.nx → (lk h.toks i).isSome = true := fun i e hi => by rwa [lk_snoc_old hi] at e
  refine ⟨by simp [Gh.addTok, hg], fun b o v e => ?_, fun id cs e => ?_, fun t k e => ?_, r.bxbx, fun i j b c1 n1 c2 n2 e1 e2 e3 e4 => ?_, fun i j b c1 n1 e1 e2 e3 e4 => ?_, fun i e => ?_, r.cchUp hx rfl (fun b es k e => heap_alloc e), r.celUp rfl (fun b vs e q => ⟨vs, e, heap_alloc q⟩)⟩
  · obtain ⟨f1, f2⟩ := r.mem b o v e
    exact ⟨cell_alloc f1, f2⟩
  · obtain ⟨b, vs', ty', f1, f2, f3, f4, f5⟩ := r.box id cs e
    exact ⟨b, vs', ty', f1, heap_alloc f2, f3.mono hx, f4, f5⟩
  · by_cases hi : t = h.nx
    · subst hi
      rw [lk_snoc_new r.lk_fresh_tok] at e
      cases e
      refine ⟨w.heap.size, c, vs, ty, by rw [htok, if_pos rfl], heap_alloc_new w _, hs, hc, Nat.zero_le _, hl.1, (hl.mono hx).2, h1, fun o _ => r.mem_none o (Nat.le_refl _)⟩
    · obtain ⟨b, c1, vs', ty', f1, f2, f3, f4, f5, f6, f7, f8, f9⟩ := r.tok t k (old t k e hi)
      refine ⟨b, c1, vs', ty', by rw [htok, if_neg hi]; exact f1, heap_alloc f2, f3, f4, f5, f6, fun i y j a g1 g2 => ?_, f8, f9⟩
      obtain ⟨v, g3, g4⟩ := f7 i y j a g1 g2
      exact ⟨v, g3, g4.mono hx⟩
  · rw [htok] at e1 e2
    by_cases hi : i = h.nx <;> by_cases hj : j = h.nx
    · rw [hi, hj]
    · rw [if_pos hi] at e1; rw [if_neg hj] at e2; cases e1
      have := r.tokBlocks j (oldS j e4 hj) _ _ _ e2; omega
    · rw [if_neg hi] at e1; rw [if_pos hj] at e2; cases e2
      have := r.tokBlocks i (oldS i e3 hi) _ _ _ e1; omega
    · rw [if_neg hi] at e1; rw [if_neg hj] at e2
      exact r.tktk i j b c1 n1 c2 n2 e1 e2 (oldS i e3 hi) (oldS j e4 hj)
  · rw [htok] at e2
    by_cases hj : j = h.nx
    · rw [if_pos hj] at e2; cases e2
      have := r.boxBlocks i e3 _ e1; omega
    · rw [if_neg hj] at e2
      exact r.bxtk i j b c1 n1 e1 e2 e3 (oldS j e4 hj)
  · have hi : h.nx ≤ i := Nat.le_of_succ_le e
    have hne : i ≠ h.nx := fun q => by subst q; exact absurd e (Nat.not_succ_le_self _)
    exact ⟨(r.fresh i hi).1, by rw [htok, if_neg hne]; exact (r.fresh i hi).2⟩

theorem Live.addTok {g : Gh} {h : Hp} {w : World} (r : HRel g h w) {k : Tk} {c n b : Nat} (l : Live (g.addTok w.heap.size c n) { h with toks := h.toks ++ [(h.nx, k)], nx := h.nx + 1 } b) : Live g h b ∨ w.heap.size ≤ b := by
  have hg : g.nx = h.nx := r.nx
  rcases l with ⟨id, cs, e1, e2⟩ | ⟨t, k', c', n', e1, e2⟩ | e1
  · exact .inl (.inl ⟨id, cs, e1, e2⟩)
  · by_cases hi : t = h.nx
    · simp [Gh.addTok, hg, hi] at e2; exact .inr (by omega)
    · simp only [Gh.addTok, hg, if_neg hi] at e2
      exact .inl (.inr (.inl ⟨t, k', c', n', by rwa [lk_snoc_old hi] at e1, e2⟩))
  · exact .inl (.inr (.inr e1))
end Go.Ab
