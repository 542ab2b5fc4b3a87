/- Operations that make or write memory: a variable, a row, a store, a made slice, an append. Conditions: those that each theorem names. -/
import Derived.Test.YtfnmdmadaljjkaaPureSound2
namespace Go.Ab

def rowsFill (s : Nat) (rows : List (List AV)) : List (Nat × AV) → Option (List (List AV))
  | [] => some rows
  | (i, v) :: rest => match v.cells with
    | some cs => if i < rows.length ∧ cs.length = s then rowsFill s (rows.set i cs) rest else none
    | none => none

/-- The rows that an argument of append brings. -/
def srcRows (h : Hp) : AV → Option (List (List AV))
  | .vec ys _ => some ys
  | .own t n => match lk h.toks t with
    | some k => if n = k.xs.length then some k.xs else none
    | none => none
  | _ => none

/-- Room for so many rows. -/
def fits (n bytes : Nat) : Prop := n ≤ maxLen ∧ n * bytes ≤ 140737488355328
instance (n bytes : Nat) : Decidable (fits n bytes) := by unfold fits; infer_instance

def heapOp (P : Program) (σ : St) : Op → Option (Option AV × Hp)
  | .alloc t => match tyOf P t with
    | some ti => match ti.zero with
      | some z => some (some (.ptr σ.hp.nx 0), { σ.hp with boxes := σ.hp.boxes ++ [(σ.hp.nx, z)], nx := σ.hp.nx + 1 })
      | none => none
    | none => none
  | .box _ x => match (ev σ x).bind AV.cells with
    | some cs => some (some (.ptr σ.hp.nx 0), { σ.hp with boxes := σ.hp.boxes ++ [(σ.hp.nx, cs)], nx := σ.hp.nx + 1 })
    | none => none
  | .buildSlice t len parts => match tyOf P t, evP σ parts.toList with
    | some ti, some ps => match ti.kd with
      | .sl e => match tyOf P e with
        | some te => match te.zero with
          | some z => if z.length = te.size ∧ len * te.size ≤ 2 ^ 24 then
              match rowsFill te.size (List.replicate len z) ps with
              | some rows => some (some (.vec rows true), σ.hp)
              | none => none
            else none
          | none => none
        | none => none
      | _ => none
    | _, _ => none
  | .store t x y => match tyOf P t, ev σ x, (ev σ y).bind AV.cells with
    | some ti, some (.ptr id off), some cs => match lk σ.hp.boxes id with
      | some row => if cs.length = ti.size ∧ off + cs.length ≤ row.length then some (none, { σ.hp with boxes := up σ.hp.boxes id (splice row off cs) }) else none
      | none => none
    | some ti, some (.ep tk n s i off), some cs => match lk σ.hp.toks tk with
      | some k => match k.xs[i]? with
        | some row => if cs.length = ti.size ∧ off + cs.length ≤ row.length ∧ n = k.xs.length ∧ s = k.s ∧ k.fz ≤ i then some (none, { σ.hp with toks := up σ.hp.toks tk ⟨k.xs.set i (splice row off cs), k.fz, k.s⟩ }) else none
        | none => none
      | none => none
    | _, _, _ => none
  | .makeSlice t l c => match tyOf P t, (ev σ l).bind intOfAV, (ev σ c).bind intOfAV with
    | some ti, some n, some m => match ti.kd with
      | .sl e => match tyOf P e with
        | some te => match te.zero with
          | some z => if 0 ≤ n ∧ n ≤ m ∧ m ≤ 9223372036854775807 ∧ te.bytes * m ≤ 281474976710656 ∧ z.length = te.size ∧ te.size ≠ 0 then
              some (some (.own σ.hp.nx n.toNat), { σ.hp with toks := σ.hp.toks ++ [(σ.hp.nx, ⟨List.replicate n.toNat z, 0, te.size⟩)], nx := σ.hp.nx + 1 })
            else none
          | none => none
        | none => none
      | _ => none
    | _, _, _ => none
  | .call c => match c.callee, c.argTypes.toList, evL σ c.args.toList with
    | .builtin .append, [t, t'], some [x, y] => match tyOf P t, srcRows σ.hp y with
      | some ti, some ys => match ti.kd with
        | .sl e => match tyOf P e with
          | some te => match te.zero with
            | some z => if t = t' ∧ z.length = te.size ∧ te.size ≠ 0 ∧ (∀ q ∈ ys, q.length = te.size) then
                match x with
                | .vec xs true => if (∀ q ∈ xs, q.length = te.size) ∧ fits (xs.length + ys.length) te.bytes then
                    (if ys.length = 0 then some (some (.vec xs true), σ.hp)
                    else some (some (.own σ.hp.nx (xs.length + ys.length)), { σ.hp with toks := σ.hp.toks ++ [(σ.hp.nx, ⟨xs ++ ys, 0, te.size⟩)], nx := σ.hp.nx + 1 }))
                  else none
                | .own tk n => match lk σ.hp.toks tk with
                  | some k => if n = k.xs.length ∧ k.s = te.size ∧ fits (n + ys.length) te.bytes then
                      some (some (.own tk (n + ys.length)), { σ.hp with toks := up σ.hp.toks tk ⟨k.xs ++ ys, k.fz, k.s⟩ })
                    else none
                  | none => none
                | _ => none
              else none
            | none => none
          | none => none
        | _ => none
      | _, _ => none
    | _, _, _ => none
  | _ => none

/-- What an operation that writes comes to. -/
def Makes (P : Program) (o : Oper) (a : Act) (g : Gh) (h : Hp) (w : World) (v : Option AV) (h' : Hp) : Prop :=
  ∃ g' w', Step1 g h w g' h' w' ∧ match v with
    | some av => ∃ u, (execOp a.eval o).run P w = .ok (.value u) w' ∧ Rep g' u av
    | none => (execOp a.eval o).run P w = .ok .skip w'

section
variable {P : Program} {g0 : Gh} {h0 : Hp} {w0 : World} {σ : St} {g : Gh} {w : World} {a : Act} {o : Oper}

theorem Step1.newBox (r : HRel g σ.hp w) (vs : Array Value) (ty : TypeId) (cs : List AV) (hc : RepL g vs.toList cs) (h1 : ∀ v ∈ vs.toList, v.oneCell' = true) :
    Step1 g σ.hp w (g.addBox w.heap.size) { σ.hp with boxes := σ.hp.boxes ++ [(σ.hp.nx, cs)], nx := σ.hp.nx + 1 } (w.alloc (.cells vs ty)) ∧ Rep (g.addBox w.heap.size) (.pointer (some ⟨w.heap.size, 0, none⟩)) (.ptr σ.hp.nx 0) :=
  ⟨⟨r.addBox vs ty cs hc h1, Ext.addBox _ _, Keeps.alloc _ _ _, fun b l => Live.addBox r l, fun b o v e => .inl e⟩,
    .ptr (by simp [Gh.addBox, r.nx]) (fun b hb => by simp [Gh.addBox, r.nx] at hb; rw [hb])⟩

theorem makes_alloc {t : TypeId} (ho : o.op = .alloc t) (r : FRel g0 h0 w0 σ g w a) {v : Option AV} {h' : Hp} (h : heapOp P σ (.alloc t) = some (v, h')) : Makes P o a g σ.hp w v h' := by
  simp only [heapOp] at h
  split at h
  · rename_i ti ht
    split at h
    · rename_i z hz
      cases h
      obtain ⟨i, d, e1, e2, e3, e4, e5, e6⟩ := tyOf_some ht
      obtain ⟨zv, z1, z2⟩ := e6 z hz
      obtain ⟨z3, z4⟩ := RepL.cellsAV (g := g) z2
      obtain ⟨k1, k2⟩ := Step1.newBox r.st.hp zv.cells t z z3 z4
      exact ⟨_, _, k1, _, by simp [execOp, ho, Instr.alloc, zeroValue, typeInfo, e1, z1, newVar, newRow], k2⟩
    · cases h
  · cases h

theorem makes_box {t : TypeId} {x : Operand} (ho : o.op = .box t x) (r : FRel g0 h0 w0 σ g w a) {v : Option AV} {h' : Hp} (h : heapOp P σ (.box t x) = some (v, h')) : Makes P o a g σ.hp w v h' := by
  simp only [heapOp] at h
  split at h
  · rename_i cs hcs
    cases h
    cases hx : ev σ x with
    | none => simp [hx] at hcs
    | some b =>
      simp only [hx, Option.bind_some] at hcs
      obtain ⟨c1, c2⟩ := (r.ev hx).cells hcs
      obtain ⟨k1, k2⟩ := Step1.newBox r.st.hp (a.eval x).cells t cs c1 c2
      exact ⟨_, _, k1, _, by simp [execOp, ho, Instr.box, newVar, newRow], k2⟩
  · cases h

/-- Cells that bear rows. -/
theorem Lies.set {vs : Array Value} {rows : List (List AV)} {s : Nat} (h : Lies g vs rows s) (hs : rows.length * s ≤ vs.size) {i : Nat} (hi : i < rows.length) {us : List Value} {cs : List AV} (hc : RepL g us cs) (hl : cs.length = s) :
    Lies g (vs.toList.take (i * s) ++ us ++ vs.toList.drop (i * s + us.length)).toArray (rows.set i cs) s ∧ (vs.toList.take (i * s) ++ us ++ vs.toList.drop (i * s + us.length)).toArray.size = vs.size := by
  have hul : us.length = s := by rw [hc.1, hl]
  have hle : i * s + s ≤ vs.size := by
    calc i * s + s = (i + 1) * s := by rw [Nat.add_mul, Nat.one_mul]
      _ ≤ rows.length * s := Nat.mul_le_mul_right _ hi
      _ ≤ vs.size := hs
  refine ⟨⟨fun x hx => ?_, fun k x j b e1 e2 => ?_⟩, by simp; omega⟩
  · rcases List.mem_or_eq_of_mem_set hx with hx | hx
    · exact h.1 x hx
    · rw [hx]; exact hl
  · rw [List.getElem?_set] at e1
    have ht : (vs.toList.take (i * s)).length = i * s := by simp; omega
    by_cases hk : i = k
    · subst hk
      rw [if_pos rfl, if_pos hi] at e1
      cases e1
      obtain ⟨u, f1, f2⟩ := hc.get e2
      refine ⟨u, ?_, f2⟩
      have hj : j < us.length := (List.getElem?_eq_some_iff.1 f1).1
      simp only [List.getElem?_toArray, List.append_assoc]
      rw [List.getElem?_append_right (by rw [ht]; omega), ht, Nat.add_sub_cancel_left, List.getElem?_append_left hj, f1]
    · rw [if_neg hk] at e1
      obtain ⟨u, f1, f2⟩ := h.2 k x j b e1 e2
      refine ⟨u, ?_, f2⟩
      have hj : j < s := by rw [← h.1 x (List.mem_of_getElem? e1)]; exact (List.getElem?_eq_some_iff.1 e2).1
      simp only [List.getElem?_toArray, List.append_assoc]
      rcases Nat.lt_or_gt_of_ne hk with hlt | hlt
      · have : (i + 1) * s ≤ k * s := Nat.mul_le_mul_right _ hlt
        rw [Nat.add_mul, Nat.one_mul] at this
        rw [List.getElem?_append_right (by rw [ht]; omega), ht, List.getElem?_append_right (by omega), List.getElem?_drop]
        rw [Array.getElem?_toList, ← f1]
        congr 1; omega
      · have : (k + 1) * s ≤ i * s := Nat.mul_le_mul_right _ hlt
        rw [Nat.add_mul, Nat.one_mul] at this
        rw [List.getElem?_append_left (by rw [ht]; omega), List.getElem?_take, if_pos (by omega), Array.getElem?_toList, f1]

theorem rowsFill_sound {s : Nat} : ∀ {ps : List (Nat × AV)} {qs : List (Nat × Value)} {cells : Array Value} {rows out : List (List AV)}, Lies g cells rows s → cells.size = rows.length * s → (∀ v ∈ cells.toList, v.oneCell' = true) →
    ps.map (·.1) = qs.map (·.1) → RepL g (qs.map (·.2)) (ps.map (·.2)) → rowsFill s rows ps = some out →
    ∃ c, Instr.fill (fun i => some (i * s, s)) cells qs = some c ∧ Lies g c out s ∧ c.size = out.length * s ∧ (∀ v ∈ c.toList, v.oneCell' = true) ∧ out.length = rows.length
  | [], [], cells, rows, out, h, hs, h1, _, _, e => by
    simp only [rowsFill, Option.some.injEq] at e; subst e
    exact ⟨cells, rfl, h, hs, h1, rfl⟩
  | [], q :: qs, _, _, _, _, _, _, e, _, _ => by simp at e
  | p :: ps, [], _, _, _, _, _, _, e, _, _ => by simp at e
  | (i, b) :: ps, (i', v) :: qs, cells, rows, out, h, hs, h1, hi, hv, e => by
    simp only [List.map_cons, List.cons.injEq] at hi hv
    obtain ⟨rfl, hi⟩ := hi
    unfold rowsFill at e
    cases hc : b.cells with
    | none => simp [hc] at e
    | some cs =>
      simp only [hc] at e
      split at e
      · rename_i hb
        obtain ⟨b1, b2⟩ := hb
        obtain ⟨g1, g2⟩ := hv.head.cells hc
        obtain ⟨l1, l2⟩ := h.set (Nat.le_of_eq hs.symm) b1 g1 b2
        have hlen : v.cells.size = s := by have := g1.1; simp at this; omega
        have hle : i * s + s ≤ cells.size := by
          rw [hs]
          calc i * s + s = (i + 1) * s := by rw [Nat.add_mul, Nat.one_mul]
            _ ≤ rows.length * s := Nat.mul_le_mul_right _ b1
        have hf := fold_set v.cells.toList cells (i * s) 0 (by simp; omega)
        have harr : v.cells.zipIdx.foldl (fun cs (p : Value × Nat) => cs.setIfInBounds (i * s + p.2) p.1) cells = (cells.toList.take (i * s) ++ v.cells.toList ++ cells.toList.drop (i * s + v.cells.toList.length)).toArray := by
          apply Array.ext'
          rw [← Array.foldl_toList, Array.toList_zipIdx, hf]
          simp
        obtain ⟨c, k1, k2, k3, k4, k5⟩ := rowsFill_sound (qs := qs) (out := out) l1 (by rw [l2, hs]; simp) (fun x hx => by
          simp only [List.mem_append] at hx
          rcases hx with (hx | hx) | hx
          · exact h1 x (List.mem_of_mem_take hx)
          · exact g2 x hx
          · exact h1 x (List.mem_of_mem_drop hx)) hi hv.tail e
        refine ⟨c, ?_, k2, k3, k4, by rw [k5]; simp⟩
        unfold Instr.fill
        simp only []
        rw [if_neg (by simp; omega), harr]
        exact k1
      · cases e

theorem zero_cells {z : List AV} {zv : Array Value} (hz : RepL g zv.toList z) (h1 : ∀ v ∈ zv.toList, v.oneCell' = true) (n s : Nat) (hs : z.length = s) :
    Lies g ((Array.range (n * s)).map (zv[· % zv.size]!)) (List.replicate n z) s ∧ ((Array.range (n * s)).map (zv[· % zv.size]!)).size = n * s ∧ ∀ v ∈ ((Array.range (n * s)).map (zv[· % zv.size]!)).toList, v.oneCell' = true := by
  have hsz : zv.size = s := by have := hz.1; simp at this; omega
  refine ⟨⟨fun x hx => by rw [(List.mem_replicate.1 hx).2]; exact hs, fun i x j b e1 e2 => ?_⟩, by simp, fun v hv => ?_⟩
  · rw [List.getElem?_replicate] at e1
    split at e1
    · rename_i hi
      cases e1
      obtain ⟨u, f1, f2⟩ := hz.get e2
      refine ⟨u, ?_, f2⟩
      have hj : j < s := by rw [← hs]; exact (List.getElem?_eq_some_iff.1 e2).1
      have hlt : i * s + j < n * s := by
        calc i * s + j < i * s + s := by omega
          _ = (i + 1) * s := by rw [Nat.add_mul, Nat.one_mul]
          _ ≤ n * s := Nat.mul_le_mul_right _ hi
      have hm : (i * s + j) % s = j := by rw [Nat.mul_comm, Nat.mul_add_mod]; exact Nat.mod_eq_of_lt hj
      rw [Array.getElem?_map, Array.getElem?_range, if_pos hlt]
      simp only [Option.map_some, hsz, hm]
      have hjz : j < zv.size := by omega
      rw [getElem!_pos zv j hjz]
      rw [Array.getElem?_toList, Array.getElem?_eq_getElem hjz] at f1
      exact f1
    · cases e1
  · simp only [Array.toList_map, List.mem_map, Array.toList_range, List.mem_range] at hv
    obtain ⟨k, hk, rfl⟩ := hv
    have hs0 : 0 < s := by
      rcases Nat.eq_zero_or_pos s with h0 | h0
      · subst h0; simp at hk
      · exact h0
    have hlt : k % zv.size < zv.size := Nat.mod_lt _ (by omega)
    rw [getElem!_pos zv _ hlt]
    exact h1 _ (by simp)

theorem Rep.vec_row {vs : Array Value} {xs : List (List AV)} {s n b : Nat} {full : Bool} {gm : Gh} (hl : Lies gm vs xs s) (hn : xs.length = n) (hm : ∀ o v, vs[o]? = some v → gm.mem b o = some v) : Rep gm (.slice (some ⟨b, 0, none⟩) n n) (.vec xs full) := by
  subst hn
  refine .vec (s := s) (fun i j => vs.getD (i * s + j) undef) hl.1 (fun _ => rfl) (Nat.le_refl _) (fun i x j b e1 e2 => ?_) (fun i x j b e1 e2 => ?_)
  · obtain ⟨v, f1, f2⟩ := hl.2 i x j b e1 e2
    rw [Array.getD_eq_getD_getElem?, f1, Nat.zero_add]
    exact hm _ _ f1
  · obtain ⟨v, f1, f2⟩ := hl.2 i x j b e1 e2
    rw [Array.getD_eq_getD_getElem?, f1]; exact f2

theorem Step1.newRow (r : HRel g σ.hp w) (vs : Array Value) (ty : TypeId) (h1 : ∀ v ∈ vs.toList, v.oneCell' = true) : Step1 g σ.hp w (g.addRow w.heap.size vs) σ.hp (w.alloc (.cells vs ty)) :=
  ⟨r.addRow vs ty h1, r.ext_row vs, Keeps.alloc _ _ _, fun b l => .inl l, fun b o v e => by
    simp only [Gh.addRow] at e
    split at e
    · exact .inr (.inr (by omega))
    · exact .inl e⟩

theorem makes_buildSlice {t : TypeId} {len : Nat} {parts : Array (Nat × Operand)} (ho : o.op = .buildSlice t len parts) (r : FRel g0 h0 w0 σ g w a) {v : Option AV} {h' : Hp} (h : heapOp P σ (.buildSlice t len parts) = some (v, h')) : Makes P o a g σ.hp w v h' := by
  simp only [heapOp] at h
  split at h
  · rename_i ti ps ht hps
    obtain ⟨d, u1, u2⟩ := run_tyUnder (w := w) ht
    obtain ⟨q1, q2⟩ := r.evP hps
    split at h
    · rename_i e hkd
      rw [u2] at hkd
      have := kdOf_sl hkd; subst this
      split at h
      · rename_i te hte
        obtain ⟨ie, de, e1, e2, e3, e4, e5, e6⟩ := tyOf_some hte
        split at h
        · rename_i z hz
          obtain ⟨zv, z1, z2⟩ := e6 z hz
          obtain ⟨z3, z4⟩ := RepL.cellsAV (g := g) z2
          split at h
          · rename_i hb
            split at h
            · rename_i rows hrows
              cases h
              obtain ⟨c1, c2, c3⟩ := zero_cells z3 z4 len te.size hb.1
              obtain ⟨cells, k1, k2, k3, k4, k5⟩ := rowsFill_sound (qs := parts.toList.map fun (p : Nat × Operand) => (p.1, a.eval p.2)) c1 (by rw [c2]; simp) c3 q1 q2 hrows
              have st := Step1.newRow (σ := σ) r.st.hp cells e k4
              refine ⟨_, _, st, .slice (some ⟨w.heap.size, 0, none⟩) len len, ?_, ?_⟩
              · have hparts : (parts.map fun (p : Nat × Operand) => (p.1, a.eval p.2)).toList = parts.toList.map fun (p : Nat × Operand) => (p.1, a.eval p.2) := by simp
                have hsz : ¬ len * te.size > 2 ^ 24 := by omega
                by_cases hz0 : len * te.size = 0
                · have hk1 : Instr.fill (fun i => some (i * te.size, te.size)) ((Array.range (len * te.size)).map (fun i => (#[] : Array Value)[i % (#[] : Array Value).size]!)) (parts.toList.map fun (p : Nat × Operand) => (p.1, a.eval p.2)) = some cells := by
                    rw [← k1]; congr 1; rw [hz0]; simp
                  simp only [execOp, ho, Sem.run_bind, Instr.buildSlice, u1, Result.andThen_ok, run_sizeOf hte, Sem.run_ite, if_neg hsz, if_pos hz0, Sem.run_pure, hparts, hk1, newRow, run_newObj, World.alloc_eq]
                · simp only [execOp, ho, Sem.run_bind, Instr.buildSlice, u1, Result.andThen_ok, run_sizeOf hte, Sem.run_ite, if_neg hsz, if_neg hz0, Sem.run_pure, zeroValue, typeInfo, run_program, e1, z1, hparts, k1, newRow, run_newObj, World.alloc_eq]
              · exact Rep.vec_row (k2.mono st.ext) (by rw [k5]; simp) (fun o v hv => by simp [Gh.addRow, hv])
            · cases h
          · cases h
        · cases h
      · cases h
    · cases h
  · cases h
end
end Go.Ab
