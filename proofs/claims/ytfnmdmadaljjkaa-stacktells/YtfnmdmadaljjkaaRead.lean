/- What a reading of the arguments says in the words of the abstract machine: the cells of what was read stand for values without addresses, and these are no greater than the reading's bulk. Conditions: those that each theorem names. -/
import Derived.Test.YtfnmdmadaljjkaaRows
import Derived.Test.YtfnmdmadaljjkaaCall
import Derived.ChangeReads
import Derived.WideShapes
set_option linter.unusedVariables false
set_option linter.unusedSimpArgs false
namespace Go.Proofs.Ytfnmdmadaljjkaa
open Go Go.Ab

/-- Memory as it is, of cells that are one value each. -/
def memOf (W : World) : Nat → Nat → Option Value := fun b o => (W.cell? ⟨b, o, none⟩).bind fun v => if v.oneCell' then some v else none
theorem memOf_some {W : World} {b o : Nat} {v : Value} (h : W.cell? ⟨b, o, none⟩ = some v) (h1 : v.oneCell' = true) : memOf W b o = some v := by simp [memOf, h, h1]
theorem memOk_of (W : World) : MemOk (memOf W) W := by
  intro b o v h
  simp only [memOf, Option.bind_eq_some_iff] at h
  obtain ⟨u, h1, h2⟩ := h
  split at h2
  · rename_i h3; cases h2; exact ⟨h1, h3⟩
  · cases h2

theorem bulk_one {H : Type} (d : DataW H) : 1 ≤ Rows.uptoBulk d := by
  cases d with
  | lit l => cases l <;> simp [Rows.uptoBulk]
  | _ => simp [Rows.uptoBulk]
theorem bulkAll_sum {H : Type} (l : List (DataW H)) : Rows.uptoBulkAll l = (l.map Rows.uptoBulk).sum := by
  induction l with
  | nil => simp [Rows.uptoBulkAll]
  | cons x l ih => simp [Rows.uptoBulkAll, ih]

section
variable {H : Type} (enc : TypeId × Value → H) (P : Program) (W : World)

/-- At fuel n what is read at type t stands for E, of bulk m. -/
def Rd (n : Nat) (t : TypeId) (E : List AV → Nat → Prop) : Prop :=
  ∀ cs d ps, DataW.trod enc P W 0 (fun _ => true) true n t cs = some (d, ps) → (∀ c ∈ cs, c.oneCell' = true) ∧ ∃ av, RepL (gm (memOf W)) cs av ∧ E av (Rows.uptoBulk d)

variable {enc P W}
theorem Rd.mono {n : Nat} {t : TypeId} {E F : List AV → Nat → Prop} (h : Rd enc P W n t E) (k : ∀ av m, E av m → F av m) : Rd enc P W n t F := fun cs d ps e => by
  obtain ⟨h1, av, h2, h3⟩ := h cs d ps e
  exact ⟨h1, av, h2, k av _ h3⟩
theorem Rd.zero {t : TypeId} {E : List AV → Nat → Prop} : Rd enc P W 0 t E := fun cs d ps e => by simp [DataW.trod] at e

theorem repL_lit {g : Gh} {v : Value} (h : plain v = true) : RepL g [v] [.lit v] := .cons (.lit h) .nil

theorem under_of {t : TypeId} {ti : TI} (h : tyOf P t = some ti) : ∃ d, P.underlying t = some d ∧ ti.kd = kdOf d ∧ P.cellsOf t = ti.size := by
  obtain ⟨i, d, h1, h2, h3, h4, _⟩ := tyOf_some h
  exact ⟨d, h2, h3, by simp [Program.cellsOf, h1, h4]⟩
theorem cellsOf_ty {t : TypeId} {ti : TI} (h : tyOf P t = some ti) : P.cellsOf t = ti.size := (under_of h).choose_spec.2.2

theorem Rd.int {n : Nat} {t : TypeId} {ti : TI} (h : tyOf P t = some ti) {k : IntKind} (hk : ti.kd = .int k) : Rd enc P W n t (fun av m => ∃ z, (Lit.int k z).wf = true ∧ av = [.lit (.int k z)]) := by
  cases n with
  | zero => exact .zero
  | succ n =>
    intro cs d ps e
    obtain ⟨u, hu, hd, _⟩ := under_of h
    rw [hk] at hd
    cases u <;> simp [kdOf] at hd
    subst hd
    rw [DataW.trod_step] at e
    unfold DataW.trodStep at e
    rw [hu] at e
    split at e <;> rename_i heq <;> first | (cases heq; done) | skip
    · rename_i k' q
      cases heq
      split at e
      · rename_i hc
        obtain ⟨rfl, hw⟩ := hc
        exact ⟨by simp [Value.oneCell'], _, repL_lit rfl, _, hw, rfl⟩
      · cases e
    all_goals simp_all

theorem Rd.bool {n : Nat} {t : TypeId} {ti : TI} (h : tyOf P t = some ti) (hk : ti.kd = .bool) : Rd enc P W n t (fun av m => ∃ b, av = [.lit (.bool b)]) := by
  cases n with
  | zero => exact .zero
  | succ n =>
    intro cs d ps e
    obtain ⟨u, hu, hd, _⟩ := under_of h
    rw [hk] at hd
    cases u <;> simp [kdOf] at hd
    rw [DataW.trod_step] at e
    unfold DataW.trodStep at e
    rw [hu] at e
    split at e <;> rename_i heq <;> first | (cases heq; done) | skip
    · exact ⟨by simp [Value.oneCell'], _, repL_lit rfl, _, rfl⟩
    all_goals simp_all

theorem Rd.str {n : Nat} {t : TypeId} {ti : TI} (h : tyOf P t = some ti) (hk : ti.kd = .str) : Rd enc P W n t (fun av m => ∃ s : ByteArray, s.size ≤ maxLen ∧ s.size + 1 = m ∧ av = [.lit (.string s)]) := by
  cases n with
  | zero => exact .zero
  | succ n =>
    intro cs d ps e
    obtain ⟨u, hu, hd, _⟩ := under_of h
    rw [hk] at hd
    cases u <;> simp [kdOf] at hd
    rw [DataW.trod_step] at e
    unfold DataW.trodStep at e
    rw [hu] at e
    split at e <;> rename_i heq <;> first | (cases heq; done) | skip
    · rename_i s
      split at e
      · rename_i hs
        cases e
        refine ⟨by simp [Value.oneCell'], _, repL_lit rfl, s, hs, ?_, rfl⟩
        simp only [Rows.uptoBulk]
        rw [Array.length_toList]; rfl
      · cases e
    all_goals simp_all

theorem mapM_get {α β : Type} {f : α → Option β} : ∀ {l : List α} {r : List β}, l.mapM f = some r → ∀ (i : Nat) (x : α), l[i]? = some x → ∃ y, r[i]? = some y ∧ f x = some y := by
  intro l
  induction l with
  | nil => intro r h i x e; simp at e
  | cons a l ih =>
    intro r h i x e
    rw [List.mapM_cons] at h
    cases hx : f a with
    | none => simp [hx] at h
    | some y =>
      cases hxs : l.mapM f with
      | none => simp [hx, hxs] at h
      | some ys =>
        simp [hx, hxs] at h
        subst h
        cases i with
        | zero => simp at e; subst e; exact ⟨y, rfl, hx⟩
        | succ i => simp at e; simpa using ih hxs i x e

theorem spot_none {a : Addr} {i : Nat} {v : Value} (h : W.cell? (a.add i) = some v) : a.add i = ⟨a.block, a.off + i, none⟩ := by
  have hspot : (a.add i).spot = none := by
    cases hsp : (a.add i).spot with
    | none => rfl
    | some s =>
      simp only [World.cell?] at h
      split at h
      · simp [hsp] at h
      · cases h
  unfold Addr.add at hspot ⊢
  split
  · rename_i h0
    subst h0
    rw [if_pos rfl] at hspot
    cases a
    simp_all
  · rfl

theorem cells_some {a : Addr} {n : Nat} {cs : List Value} (h : W.cells? 0 a n = some cs) : cs.length = n ∧ ∀ (i : Nat) (v : Value), cs[i]? = some v → W.cell? ⟨a.block, a.off + i, none⟩ = some v ∧ W.cell? (a.add i) = some v := by
  unfold World.cells? at h
  rw [if_pos (Nat.zero_le _)] at h
  have hl : cs.length = n := by simpa using mapM_some_length h
  refine ⟨hl, fun i v e => ?_⟩
  have hi : i < n := by have := (List.getElem?_eq_some_iff.1 e).1; omega
  obtain ⟨y, h1, h2⟩ := mapM_get h i i (by simp [hi])
  rw [e] at h1; cases h1
  exact ⟨by rw [← spot_none h2]; exact h2, h2⟩

theorem add_add {a : Addr} {i j : Nat} : (a.add i).add j = a.add (i + j) := by
  unfold Addr.add
  by_cases h : i = 0
  · subst h; simp
  · by_cases h2 : j = 0
    · subst h2; simp
    · simp [h, h2, Nat.add_assoc]

theorem Rd.slice {n : Nat} {t e : TypeId} {ti te : TI} (h : tyOf P t = some ti) (hk : ti.kd = .sl e) (he : tyOf P e = some te) (hpos : 0 < te.size) {E : List AV → Nat → Prop} (hE : Rd enc P W n e E) :
    Rd enc P W (n + 1) t (fun av m => ∃ l : List (List AV × Nat), av = [.vec (l.map (·.1)) false] ∧ (∀ p ∈ l, E p.1 p.2 ∧ 1 ≤ p.2 ∧ p.1.length = te.size) ∧ (l.map (·.2)).sum + 1 ≤ m ∧ l.length ≤ maxLen) := by
  intro cs d ps e0
  obtain ⟨u, hu, hd, _⟩ := under_of h
  rw [hk] at hd
  cases u <;> simp [kdOf] at hd
  subst hd
  have hc := cellsOf_ty he
  rw [DataW.trod_step] at e0
  unfold DataW.trodStep at e0
  rw [hu] at e0
  split at e0 <;> rename_i heq <;> first | (cases heq; done) | skip
  · cases e0
    refine ⟨by simp [Value.oneCell'], _, .cons .vecN .nil, [], rfl, by simp, by simp [Rows.uptoBulk], by simp⟩
  · rename_i a len cap
    cases heq
    simp only at e0
    split at e0
    · rename_i hcond
      obtain ⟨_, hlc, hcm⟩ := hcond
      simp only [Option.map_eq_some_iff, Option.bind_eq_some_iff] at e0
      obtain ⟨elems, hel, rest, hrest, heq2⟩ := e0
      cases heq2
      have hlen : elems.length = len := by simpa using mapM_some_length hel
      refine ⟨by simp [Value.oneCell'], ?_⟩
      have row : ∀ i, i < len → ∃ y, elems[i]? = some y ∧ ∃ cs', cs'.length = te.size ∧ (∀ j v, cs'[j]? = some v → W.cell? (a.add (i * te.size + j)) = some v) ∧ (∀ c ∈ cs', c.oneCell' = true) ∧ ∃ av, RepL (gm (memOf W)) cs' av ∧ E av (Rows.uptoBulk y.1) := by
        intro i hi
        obtain ⟨y, h1, h2⟩ := mapM_get hel i i (by simp [hi])
        simp only [Option.bind_eq_some_iff] at h2
        obtain ⟨cs', hc1, hc2⟩ := h2
        rw [hc] at hc1
        obtain ⟨c1, c2⟩ := cells_some hc1
        obtain ⟨y1, y2⟩ := y
        obtain ⟨r1, r2⟩ := hE _ _ _ hc2
        refine ⟨_, h1, cs', c1, fun j v e => ?_, r1, r2⟩
        rw [← add_add]; exact (c2 j v e).2
      by_cases h0 : len = 0
      · subst h0
        have : elems = [] := List.length_eq_zero_iff.1 hlen
        subst this
        exact ⟨_, .cons (.vecE (fun q => by cases q)) .nil, [], rfl, by simp, by simp [Rows.uptoBulk, Rows.uptoBulkAll], by simp⟩
      · -- the address is a plain one
        have hp : 0 < len := by omega
        obtain ⟨y0, g1, cs0, g2, g3, _⟩ := row 0 hp
        obtain ⟨v0, hv0⟩ : ∃ v0, cs0[0]? = some v0 := ⟨cs0[0]'(by omega), by simp⟩
        have ha : a = ⟨a.block, a.off, none⟩ := by
          have := g3 0 v0 hv0
          have h2 := spot_none (a := a) (i := 0) (by simpa using this)
          simpa [Addr.add] using h2
        classical
        let asf : Nat → List AV := fun i => if hi : i < len then (row i hi).choose_spec.2.choose_spec.2.2.2.choose else []
        let csf : Nat → List Value := fun i => if hi : i < len then (row i hi).choose_spec.2.choose else []
        let yf : Nat → Nat := fun i => if hi : i < len then Rows.uptoBulk (row i hi).choose.1 else 0
        have fact : ∀ i, i < len → elems[i]?.map (fun y => Rows.uptoBulk y.1) = some (yf i) ∧ (csf i).length = te.size ∧ (∀ j v, (csf i)[j]? = some v → W.cell? (a.add (i * te.size + j)) = some v) ∧ (∀ c ∈ csf i, c.oneCell' = true) ∧ RepL (gm (memOf W)) (csf i) (asf i) ∧ E (asf i) (yf i) ∧ 1 ≤ yf i := by
          intro i hi
          have q := (row i hi).choose_spec
          have q2 := q.2.choose_spec
          have q3 := q2.2.2.2.choose_spec
          simp only [asf, csf, yf, dif_pos hi]
          exact ⟨congrArg (Option.map fun y => Rows.uptoBulk y.1) q.1, q2.1, q2.2.1, q2.2.2.1, q3.1, q3.2, bulk_one _⟩
        let l : List (List AV × Nat) := (List.range len).map fun i => (asf i, yf i)
        have hll : l.length = len := by simp [l]
        have hxs : (l.map (·.1)) = (List.range len).map asf := by simp [l, Function.comp_def]
        have hys : (l.map (·.2)) = elems.map (fun y => Rows.uptoBulk y.1) := by
          apply List.ext_getElem?
          intro i
          simp only [l, List.map_map, List.getElem?_map, Function.comp_def]
          by_cases hi : i < len
          · rw [(fact i hi).1]; simp [hi]
          · simp [List.getElem?_eq_none (l := elems) (i := i) (by omega), hi]
        refine ⟨[.vec (l.map (·.1)) false], .cons ?_ .nil, l, rfl, ?_, ?_, by rw [hll]; omega⟩
        · rw [ha]
          have key : Rep (gm (memOf W)) (.slice (some ⟨a.block, a.off, none⟩) ((List.range len).map asf).length cap) (.vec ((List.range len).map asf) false) := by
            refine .vec (s := te.size) (fun i j => (csf i).getD j (.bool false)) ?_ (fun q => by cases q) (by simpa using hlc) ?_ ?_
            · intro x hx
              obtain ⟨i, hi, rfl⟩ := List.mem_map.1 hx
              have := fact i (by simpa using hi)
              rw [← this.2.2.2.2.1.1]; exact this.2.1
            · intro i x j b e1 e2
              have hi : i < len := by have := (List.getElem?_eq_some_iff.1 e1).1; simpa using this
              have hx : asf i = x := by simpa [hi] using e1
              subst hx
              obtain ⟨_, f2, f3, f4, f5, _⟩ := fact i hi
              have hj : j < (csf i).length := by rw [f5.1]; exact (List.getElem?_eq_some_iff.1 e2).1
              have hv : (csf i)[j]? = some ((csf i).getD j (.bool false)) := by simp [List.getD, hj]
              have hcell := f3 j _ hv
              have := spot_none hcell
              rw [this] at hcell
              rw [Nat.add_assoc]
              exact memOf_some hcell (f4 _ (List.mem_of_getElem? hv))
            · intro i x j b e1 e2
              have hi : i < len := by have := (List.getElem?_eq_some_iff.1 e1).1; simpa using this
              have hx : asf i = x := by simpa [hi] using e1
              subst hx
              obtain ⟨_, f2, f3, f4, f5, _⟩ := fact i hi
              have hj : j < (csf i).length := by rw [f5.1]; exact (List.getElem?_eq_some_iff.1 e2).1
              have hv : (csf i)[j]? = some ((csf i).getD j (.bool false)) := by simp [List.getD, hj]
              exact f5.2 j _ b hv e2
          rw [hxs]
          simpa using key
        · intro p hp
          obtain ⟨i, hi, rfl⟩ := List.mem_map.1 hp
          obtain ⟨_, f2, _, _, f5, f6, f7⟩ := fact i (by simpa using hi)
          exact ⟨f6, f7, by rw [← f5.1]; exact f2⟩
        · rw [hys]
          simp only [Rows.uptoBulk, bulkAll_sum, List.map_map]
          have : (List.map (Rows.uptoBulk ∘ fun x => x.fst) elems).sum = (List.map (fun y => Rows.uptoBulk y.1) elems).sum := rfl
          omega
    · cases e0
  all_goals simp_all

/-- Fields, from a place on. -/
def RdFs (enc : TypeId × Value → H) (P : Program) (W : World) (n N : Nat) (fs : List (Nat × TypeId)) (k : Nat) (E : List AV → Nat → Prop) : Prop :=
  ∀ (cs : List Value) (xs : List (DataW H × List MemPlace)), cs.length = N → (fs.mapM fun f => DataW.trod enc P W 0 (fun _ => true) true n f.2 ((cs.drop f.1).take (P.cellsOf f.2))) = some xs →
    (∀ c ∈ cs.drop k, c.oneCell' = true) ∧ ∃ av, RepL (gm (memOf W)) (cs.drop k) av ∧ E av (Rows.uptoBulkAll (xs.map (·.1)))

theorem RdFs.nil {n N k : Nat} (h : N ≤ k) : RdFs enc P W n N [] k (fun av m => av = []) := fun cs xs hl _ => by
  have : cs.drop k = [] := List.drop_eq_nil_of_le (by omega)
  rw [this]
  exact ⟨by simp, [], .nil, rfl⟩

theorem RdFs.cons {n N k t : Nat} {ti : TI} {fs : List (Nat × TypeId)} {E F : List AV → Nat → Prop} (ht : tyOf P t = some ti) (h : Rd enc P W n t E) (r : RdFs enc P W n N fs (k + ti.size) F) :
    RdFs enc P W n N ((k, t) :: fs) k (fun av m => ∃ a b p q, av = a ++ b ∧ E a p ∧ F b q ∧ p + q = m) := by
  intro cs xs hl hm
  rw [List.mapM_cons] at hm
  simp only [bind, Option.bind_eq_some_iff, pure, Option.some.injEq] at hm
  obtain ⟨⟨d, ps⟩, h1, ys, h2, rfl⟩ := hm
  obtain ⟨q1, av, q2, q3⟩ := h _ _ _ h1
  obtain ⟨r1, bs, r2, r3⟩ := r cs ys hl h2
  have e : cs.drop k = (cs.drop k).take (P.cellsOf t) ++ cs.drop (k + ti.size) := by
    rw [cellsOf_ty ht, ← List.drop_drop, List.take_append_drop]
  rw [e]
  refine ⟨fun c hc => ?_, av ++ bs, q2.append r2, av, bs, _, _, rfl, q3, r3, ?_⟩
  · rcases List.mem_append.1 hc with hc | hc
    · exact q1 c hc
    · exact r1 c hc
  · simp [Rows.uptoBulkAll]

theorem mapM_map' {α β γ : Type} (f : α → β) (g : β → Option γ) : ∀ l : List α, (l.map f).mapM g = l.mapM fun x => g (f x)
  | [] => by simp
  | x :: l => by simp only [List.map_cons, List.mapM_cons, mapM_map' f g l]

theorem Rd.struct {n : Nat} {t : TypeId} {ti : TI} (h : tyOf P t = some ti) {fs : List (Nat × TypeId)} (hk : ti.kd = .st fs) {E : List AV → Nat → Prop} (hE : RdFs enc P W n ti.size fs 0 E) :
    Rd enc P W (n + 1) t (fun av m => ∃ q, E av q ∧ q + 1 = m) := by
  intro cs d ps e0
  obtain ⟨u, hu, hd, hc⟩ := under_of h
  rw [hk] at hd
  cases u <;> simp [kdOf] at hd
  rename_i fs'
  subst hd
  rw [DataW.trod_step] at e0
  unfold DataW.trodStep at e0
  rw [hu] at e0
  have key : (if cs.length = P.cellsOf t then (fs'.toList.mapM fun f => DataW.trod enc P W 0 (fun _ => true) true n f.type ((cs.drop f.offset).take (P.cellsOf f.type))).map fun xs => (DataW.agg (xs.map (·.1)), xs.flatMap (·.2)) else none) = some (d, ps) := by
    split at e0 <;> rename_i heq <;> first | (cases heq; done) | skip
    · cases heq; exact e0
    all_goals simp_all
  split at key
  · rename_i hl
    simp only [Option.map_eq_some_iff, Prod.mk.injEq] at key
    obtain ⟨xs, h1, rfl, rfl⟩ := key
    rw [hc] at hl
    obtain ⟨r1, av, r2, r3⟩ := hE cs xs hl (by rw [mapM_map']; exact h1)
    exact ⟨by simpa using r1, av, by simpa using r2, _, r3, by simp [Rows.uptoBulk]⟩
  · cases key

/-- Rows told by what they stand for. -/
theorem rows_of {T : Type} {f : T → List AV} {sz : T → Nat} {E : List AV → Nat → Prop} (hE : ∀ a m, E a m → ∃ t, a = f t ∧ sz t ≤ m) : ∀ (l : List (List AV × Nat)), (∀ p ∈ l, E p.1 p.2) → ∃ ts : List T, l.map (·.1) = ts.map f ∧ (ts.map sz).sum ≤ (l.map (·.2)).sum
  | [], _ => ⟨[], rfl, Nat.le_refl _⟩
  | p :: l, h => by
    obtain ⟨t, h1, h2⟩ := hE _ _ (h p (by simp))
    obtain ⟨ts, h3, h4⟩ := rows_of hE l (fun q hq => h q (by simp [hq]))
    exact ⟨t :: ts, by simp [h1, h3], by simp; omega⟩
end
end Go.Proofs.Ytfnmdmadaljjkaa
