/- Stores, made slices, appends. Conditions: those that each theorem names. -/
import Derived.Test.YtfnmdmadaljjkaaHeapOp
namespace Go.Ab

section
variable {P : Program} {g0 : Gh} {h0 : Hp} {w0 : World} {σ : St} {g : Gh} {w : World} {a : Act} {o : Oper}

theorem run_store_cells {b off : Nat} {vs : Array Value} {ty : TypeId} (hb : w.heap[b]? = some (.cells vs ty (0, 0))) {us : List Value} (hu : ∀ v ∈ us, v.oneCell' = true) (hl : off + us.length ≤ vs.size) :
    (storeCells ⟨b, off, none⟩ us).run P w = .ok () (w.setRow b (vs.toList.take off ++ us ++ vs.toList.drop (off + us.length)).toArray) := by
  have := run_storeCells_at P b off ty us 0 vs w hb (by simpa using hl) hu
  simpa using this

theorem run_storeAt' {t : TypeId} {ti : TI} (ht : tyOf P t = some ti) {b off : Nat} {vs : Array Value} {ty : TypeId} (hb : w.heap[b]? = some (.cells vs ty (0, 0))) {v : Value} (hu : ∀ c ∈ v.cells.toList, c.oneCell' = true)
    (hs : v.cells.size = ti.size) (hl : off + v.cells.size ≤ vs.size) :
    (Instr.storeAt t (.pointer (some ⟨b, off, none⟩)) v).run P w = .ok () (w.setRow b (vs.toList.take off ++ v.cells.toList ++ vs.toList.drop (off + v.cells.toList.length)).toArray) := by
  have := run_store_cells (P := P) hb hu (by simpa using hl)
  simp only [Instr.storeAt, Instr.sureAddr, Sem.run_bind, Sem.run_pure, Result.andThen_ok, storeVar, run_sizeOf ht]
  rw [if_neg (by omega)]
  exact this

theorem cells_of_splice {vs us : List Value} (h1 : ∀ v ∈ vs, v.oneCell' = true) (h2 : ∀ v ∈ us, v.oneCell' = true) (off k : Nat) : ∀ v ∈ vs.take off ++ us ++ vs.drop k, v.oneCell' = true := by
  intro v hv
  simp only [List.mem_append] at hv
  rcases hv with (hv | hv) | hv
  · exact h1 v (List.mem_of_mem_take hv)
  · exact h2 v hv
  · exact h1 v (List.mem_of_mem_drop hv)

theorem makes_store {t : TypeId} {x y : Operand} (ho : o.op = .store t x y) (r : FRel g0 h0 w0 σ g w a) {v : Option AV} {h' : Hp} (h : heapOp P σ (.store t x y) = some (v, h')) : Makes P o a g σ.hp w v h' := by
  simp only [heapOp] at h
  split at h
  · rename_i ti id off cs ht hx hy
    split at h
    · rename_i row hrow
      split at h
      · rename_i hb
        cases h
        cases hy' : ev σ y with
        | none => simp [hy'] at hy
        | some b =>
          simp only [hy', Option.bind_some] at hy
          obtain ⟨c1, c2⟩ := (r.ev hy').cells hy
          obtain ⟨bk, vs, ty, f1, f2, f3, f4, f5⟩ := r.st.hp.box id row hrow
          have hv := r.ev hx
          generalize hu : a.eval x = u at hv
          cases hv with
          | ptr p1 p2 =>
            have := p2 bk f1; subst this
            have hcs : (a.eval y).cells.size = cs.length := by have := c1.1; simpa using this
            have hrl : vs.size = row.length := by have := f3.1; simpa using this
            have hsound := r.st.hp.setBox hrow f1 (vs.toList.take off ++ (a.eval y).cells.toList ++ vs.toList.drop (off + (a.eval y).cells.toList.length)).toArray (cs' := splice row off cs) (by simpa using f3.set c1 off) (by simpa using cells_of_splice f4 c2 off _)
            exact ⟨g, _, ⟨hsound, .refl _, Keeps.setRow w _ (.inl ⟨id, row, hrow, f1⟩), fun b' l => .inl (Live.setBox l), fun _ _ _ e => .inl e⟩, by
              have := run_storeAt' (P := P) (w := w) ht f2 c2 (by omega) (off := off) (by omega)
              simp only [execOp, ho, hu, Sem.run_bind, this, Result.andThen_ok, Sem.run_pure]⟩
      · cases h
    · cases h
  · rename_i ti tk n s i off cs ht hx hy
    split at h
    · rename_i k hk
      split at h
      · rename_i row hrow
        split at h
        · rename_i hb
          cases h
          obtain ⟨b1, b2, b3, b4, b5⟩ := hb
          cases hy' : ev σ y with
          | none => simp [hy'] at hy
          | some b =>
            simp only [hy', Option.bind_some] at hy
            obtain ⟨c1, c2⟩ := (r.ev hy').cells hy
            obtain ⟨bk, c, vs, ty, f1, f2, f3, f4, f5, f6, f7, f8, f9⟩ := r.st.hp.tok tk k hk
            have hv := r.ev hx
            generalize hu : a.eval x = u at hv
            cases hv with
            | ep p1 p2 =>
              have := (p2 bk c _ f1).2 b3; subst this
              subst b4
              have hcs : (a.eval y).cells.size = cs.length := by have := c1.1; simpa using this
              have hi : i < k.xs.length := (List.getElem?_eq_some_iff.1 hrow).1
              have hrl : row.length = k.s := f6 row (List.mem_of_getElem? hrow)
              have hle : i * k.s + k.s ≤ k.xs.length * k.s := by
                calc i * k.s + k.s = (i + 1) * k.s := by rw [Nat.add_mul, Nat.one_mul]
                  _ ≤ k.xs.length * k.s := Nat.mul_le_mul_right _ hi
              have hle2 : k.xs.length * k.s ≤ vs.size := by rw [f3]; exact Nat.mul_le_mul_right _ f4
              -- the row, spliced, is a row put at its place
              have hrowR : RepL g ((vs.toList.drop (i * k.s)).take k.s) row := ⟨by simp; omega, fun j x a e1 e2 => by
                obtain ⟨v, q1, q2⟩ := f7 i row j a hrow e2
                have hj : j < k.s := by rw [← hrl]; exact (List.getElem?_eq_some_iff.1 e2).1
                rw [List.getElem?_take, if_pos hj, List.getElem?_drop, Array.getElem?_toList, q1] at e1
                cases e1; exact q2⟩
              have hsp := hrowR.set c1 off
              have hspl : (splice row off cs).length = k.s := by unfold splice; simp; omega
              have harr : vs.toList.take (i * k.s + off) ++ (a.eval y).cells.toList ++ vs.toList.drop (i * k.s + off + (a.eval y).cells.toList.length)
                  = vs.toList.take (i * k.s) ++ (((vs.toList.drop (i * k.s)).take k.s).take off ++ (a.eval y).cells.toList ++ ((vs.toList.drop (i * k.s)).take k.s).drop (off + (a.eval y).cells.toList.length)) ++ vs.toList.drop (i * k.s + (((vs.toList.drop (i * k.s)).take k.s).take off ++ (a.eval y).cells.toList ++ ((vs.toList.drop (i * k.s)).take k.s).drop (off + (a.eval y).cells.toList.length)).length) := by
                have hlen : (((vs.toList.drop (i * k.s)).take k.s).take off ++ (a.eval y).cells.toList ++ ((vs.toList.drop (i * k.s)).take k.s).drop (off + (a.eval y).cells.toList.length)).length = k.s := by simp; omega
                rw [hlen, List.take_take, Nat.min_eq_left (by omega), List.drop_take, List.drop_drop]
                have h1 : vs.toList.take (i * k.s + off) = vs.toList.take (i * k.s) ++ (vs.toList.drop (i * k.s)).take off := by rw [List.take_add]
                have h2 : vs.toList.drop (i * k.s + off + (a.eval y).cells.toList.length) = (vs.toList.drop (i * k.s + (off + (a.eval y).cells.toList.length))).take (k.s - (off + (a.eval y).cells.toList.length)) ++ vs.toList.drop (i * k.s + k.s) := by
                  have hk' : k.s - (off + (a.eval y).cells.toList.length) + (off + (a.eval y).cells.toList.length) = k.s := by simp; omega
                  rw [← Nat.add_assoc]
                  conv => lhs; rw [← List.take_append_drop (k.s - (off + (a.eval y).cells.toList.length)) (vs.toList.drop (i * k.s + off + (a.eval y).cells.toList.length))]
                  rw [List.drop_drop]
                  congr 2
                  simp; omega
                rw [h1, h2]
                simp [List.append_assoc]
              obtain ⟨l1, l2⟩ := Lies.set (g := g) (vs := vs) (rows := k.xs) (s := k.s) ⟨f6, f7⟩ (by omega) hi hsp hspl
              rw [← harr] at l1 l2
              have hone : ∀ v ∈ (vs.toList.take (i * k.s + off) ++ (a.eval y).cells.toList ++ vs.toList.drop (i * k.s + off + (a.eval y).cells.toList.length)).toArray.toList, v.oneCell' = true := by simpa using cells_of_splice f8 c2 (i * k.s + off) _
              have hmem : ∀ o v, g.mem bk o = some v → (vs.toList.take (i * k.s + off) ++ (a.eval y).cells.toList ++ vs.toList.drop (i * k.s + off + (a.eval y).cells.toList.length)).toArray[o]? = some v := fun o v e => by
                have ho : o < k.fz * k.s := by
                  rcases Nat.lt_or_ge o (k.fz * k.s) with q | q
                  · exact q
                  · rw [f9 o q] at e; cases e
                have ho2 : k.fz * k.s ≤ i * k.s := Nat.mul_le_mul_right _ b5
                have := (r.st.hp.mem bk o v e).1
                rw [cell_of_block f2] at this
                simp only [List.getElem?_toArray, List.append_assoc]
                rw [List.getElem?_append_left (by simp; omega), List.getElem?_take, if_pos (by omega), Array.getElem?_toList]
                exact this
              obtain ⟨s1, s2⟩ := r.st.hp.setTok hk f1 _ _ k.fz l1 hone (by rw [l2]; exact f3) (by simp) (by simpa using f4) (Nat.le_refl _) (by simpa using f5) hmem
              refine ⟨_, _, ⟨s1, s2, Keeps.setRow w _ (.inr (.inl ⟨tk, k, c, _, hk, f1⟩)), fun b' l => .inl (Live.setTok hk f1 l), fun _ _ _ e => .inl e⟩, ?_⟩
              have hst := run_storeAt' (P := P) (w := w) ht f2 c2 (by omega) (off := i * k.s + off) (by omega)
              simp only [execOp, ho, hu, Sem.run_bind, hst, Result.andThen_ok, Sem.run_pure]
        · cases h
      · cases h
    · cases h
  · cases h
end
end Go.Ab
