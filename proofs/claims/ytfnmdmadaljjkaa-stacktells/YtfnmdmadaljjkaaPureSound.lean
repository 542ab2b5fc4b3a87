/- That the operations which change nothing do what the machine says. Conditions: those that each theorem names. -/
import Derived.Test.YtfnmdmadaljjkaaPure
namespace Go.Ab

theorem RepL.set {g : Gh} {vs us : List Value} {as bs : List AV} (h : RepL g vs as) (k : RepL g us bs) (off : Nat) : RepL g (vs.take off ++ us ++ vs.drop (off + us.length)) (splice as off bs) := by
  unfold splice
  rw [k.1]
  exact ((h.take off).append k).append (h.drop _)

theorem fold_set : ∀ (l : List Value) (cs : Array Value) (off j : Nat), off + j + l.length ≤ cs.size →
    ((l.zipIdx j).foldl (fun cs (p : Value × Nat) => cs.setIfInBounds (off + p.2) p.1) cs).toList = cs.toList.take (off + j) ++ l ++ cs.toList.drop (off + j + l.length)
  | [], cs, off, j, _ => by simp
  | v :: l, cs, off, j, h => by
    have hlt : off + j < cs.size := by simp at h; omega
    rw [List.zipIdx_cons, List.foldl_cons, fold_set l _ off (j + 1) (by simp at h ⊢; omega)]
    apply List.ext_getElem?
    intro i
    simp only [Array.toList_setIfInBounds, List.length_cons]
    simp only [List.getElem?_append, List.length_take, List.length_set, Array.length_toList, List.getElem?_take, List.getElem?_drop, List.getElem?_set, List.length_append, List.length_cons]
    have e1 : min (off + (j + 1)) cs.size = off + j + 1 := by omega
    have e2 : min (off + j) cs.size = off + j := by omega
    rw [e1, e2]
    by_cases c1 : i < off + j
    · have : i < off + j + 1 := by omega
      have c2 : ¬ off + j = i := by omega
      have c3 : i < off + j + 1 + l.length := by omega
      have c4 : i < off + j + (l.length + 1) := by omega
      have c5 : i < off + (j + 1) := by omega
      simp [c1, this, c2, c3, c4, c5]
    · by_cases c2 : i = off + j
      · subst c2
        simp [hlt, Nat.add_assoc]
      · have c3 : ¬ i < off + j + 1 := by omega
        by_cases c4 : i < off + j + 1 + l.length
        · have c5 : i < off + j + (l.length + 1) := by omega
          have c6 : i - (off + j) = (i - (off + j + 1)) + 1 := by omega
          simp only [c4, c5, c3, c1, if_true, if_false]
          rw [c6, List.getElem?_cons_succ]
        · have c5 : ¬ i < off + j + (l.length + 1) := by omega
          have c6 : ¬ off + j = off + (j + 1) + l.length + (i - (off + j + 1 + l.length)) := by omega
          simp only [c4, c5, c6, if_false]
          congr 1
          omega

theorem fill_sound {g : Gh} {place : Nat → Option (Nat × Nat)} : ∀ {ps : List (Nat × AV)} {qs : List (Nat × Value)} {cells : Array Value} {as out : List AV}, RepL g cells.toList as → (∀ v ∈ cells.toList, v.oneCell' = true) →
    ps.map (·.1) = qs.map (·.1) → RepL g (qs.map (·.2)) (ps.map (·.2)) → fillAV place as ps = some out →
    ∃ c, Instr.fill place cells qs = some c ∧ RepL g c.toList out ∧ ∀ v ∈ c.toList, v.oneCell' = true
  | [], [], cells, as, out, h, h1, _, _, e => by
    simp only [fillAV, Option.some.injEq] at e; subst e
    exact ⟨cells, rfl, h, h1⟩
  | [], q :: qs, _, _, _, _, _, e, _, _ => by simp at e
  | p :: ps, [], _, _, _, _, _, e, _, _ => by simp at e
  | (i, a) :: ps, (i', v) :: qs, cells, as, out, h, h1, hi, hv, e => by
    simp only [List.map_cons, List.cons.injEq] at hi hv
    obtain ⟨rfl, hi⟩ := hi
    unfold fillAV at e
    cases hp : place i with
    | none => simp [hp] at e
    | some os =>
      obtain ⟨off, size⟩ := os
      cases hc : a.cells with
      | none => simp [hp, hc] at e
      | some cs =>
        simp only [hp, hc] at e
        split at e
        · rename_i hs
          obtain ⟨g1, g2⟩ := hv.head.cells hc
          have hlen : v.cells.size = cs.length := by simpa using g1.1
          have hcl : cells.size = as.length := by simpa using h.1
          have hf := fold_set v.cells.toList cells off 0 (by simp; omega)
          have harr : v.cells.zipIdx.foldl (fun cs (p : Value × Nat) => cs.setIfInBounds (off + p.2) p.1) cells = (cells.toList.take off ++ v.cells.toList ++ cells.toList.drop (off + v.cells.toList.length)).toArray := by
            apply Array.ext'
            rw [← Array.foldl_toList, Array.toList_zipIdx, hf]
            simp
          obtain ⟨c, k1, k2, k3⟩ := fill_sound (qs := qs) (cells := (cells.toList.take off ++ v.cells.toList ++ cells.toList.drop (off + v.cells.toList.length)).toArray) (as := splice as off cs) (out := out)
            (by simpa using h.set g1 off) (fun x hx => by
              simp only [List.mem_append] at hx
              rcases hx with (hx | hx) | hx
              · exact h1 x (List.mem_of_mem_take hx)
              · exact g2 x hx
              · exact h1 x (List.mem_of_mem_drop hx)) hi hv.tail e
          refine ⟨c, ?_, k2, k3⟩
          unfold Instr.fill
          simp only [hp]
          rw [if_neg (by simp; omega), harr]
          exact k1
        · cases e

theorem FRel.evP {g0 h0 w0 σ g w a} (r : FRel g0 h0 w0 σ g w a) : ∀ {xs : List (Nat × Operand)} {ps : List (Nat × AV)}, evP σ xs = some ps → ps.map (·.1) = (xs.map fun (p : Nat × Operand) => (p.1, a.eval p.2)).map (·.1) ∧ RepL g ((xs.map fun (p : Nat × Operand) => (p.1, a.eval p.2)).map (·.2)) (ps.map (·.2))
  | [], ps, h => by cases h; exact ⟨rfl, .nil⟩
  | (i, x) :: l, ps, h => by
    unfold Ab.evP at h
    split at h
    · rename_i v vs h1 h2; cases h
      obtain ⟨k1, k2⟩ := r.evP h2
      exact ⟨by simpa using k1, .cons (r.ev h1) k2⟩
    · cases h

theorem places_sound {P : Program} {w : World} : ∀ {fs : List Field} {pl : List (Nat × Nat)}, places P (fs.map fun f => (f.offset, f.type)) = some pl →
    (fs.mapM (m := Sem) fun f => do pure (f.offset, ← sizeOf f.type)).run P w = .ok pl w
  | [], pl, h => by cases h; rfl
  | f :: fs, pl, h => by
    unfold places at h
    simp only [List.map_cons] at h
    split at h
    · rename_i ti ps h1 h2
      cases h
      obtain ⟨i, d, e1, _, _, e4, _⟩ := tyOf_some h1
      have ih := places_sound (w := w) h2
      have first : (do pure (f.offset, ← sizeOf f.type) : Sem (Nat × Nat)).run P w = .ok (f.offset, ti.size) w := by simp [sizeOf, typeInfo, e1, e4]
      rw [List.mapM_cons, Sem.run_bind, first, Result.andThen_ok, Sem.run_bind, ih, Result.andThen_ok, Sem.run_pure]
    · cases h

theorem mapM_toList {P : Program} {w : World} {α β : Type} (f : α → Sem β) (xs : Array α) {ys : List β} (h : (xs.toList.mapM f).run P w = .ok ys w) : (xs.mapM f).run P w = .ok ys.toArray w := by
  have e : xs.mapM f = List.toArray <$> xs.toList.mapM f := by rw [← List.mapM_toArray]
  rw [e, Sem.run_map, h]
  rfl

/-- What an operation of one value comes to. -/
def Gives (P : Program) (o : Oper) (a : Act) (w : World) (g : Gh) (v : AV) : Prop := ∃ u, (execOp a.eval o).run P w = .ok (.value u) w ∧ Rep g u v

section
variable {P : Program} {g0 : Gh} {h0 : Hp} {w0 : World} {σ : St} {g : Gh} {w : World} {a : Act} {o : Oper} {v : AV}

theorem gives_build {t : TypeId} {parts : Array (Nat × Operand)} (ho : o.op = .build t parts) (r : FRel g0 h0 w0 σ g w a) (h : pureOp P σ (.build t parts) = some v) : Gives P o a w g v := by
  simp only [pureOp] at h
  cases ht : tyOf P t with
  | none => simp [ht] at h
  | some ti =>
    cases hp : evP σ parts.toList with
    | none => simp [ht, hp] at h
    | some ps =>
      simp only [ht, hp] at h
      obtain ⟨i, d, e1, e2, e3, e4, e5, e6⟩ := tyOf_some ht
      obtain ⟨q1, q2⟩ := r.evP hp
      have hparts : (parts.map fun (p : Nat × Operand) => (p.1, a.eval p.2)).toList = parts.toList.map fun (p : Nat × Operand) => (p.1, a.eval p.2) := by simp
      cases hz : ti.zero with
      | none => simp [hz] at h
      | some z =>
        obtain ⟨zv, z1, z2⟩ := e6 z hz
        obtain ⟨z3, z4⟩ := RepL.cellsAV (g := g) z2
        simp only [hz, e3] at h
        cases d with
        | struct fields =>
          simp only [kdOf] at h
          cases hpl : places P (fields.toList.map fun f => (f.offset, f.type)) with
          | none => simp [hpl] at h
          | some pl =>
            simp only [hpl] at h
            cases hf : fillAV (fun x => pl[x]?) z ps with
            | none => simp [hf] at h
            | some out =>
              simp only [hf, Option.map_some, Option.some.injEq] at h
              subst h
              obtain ⟨c, k1, k2, k3⟩ := fill_sound z3 z4 q1 q2 hf
              have hm := mapM_toList (P := P) (w := w) (fun f : Field => do pure (f.offset, ← sizeOf f.type)) fields (places_sound hpl)
              refine ⟨.agg c, ?_, .agg k3 k2.1 k2.2⟩
              have k1' : Instr.fill (fun x => pl.toArray[x]?) zv.cells (parts.toList.map fun (p : Nat × Operand) => (p.1, a.eval p.2)) = some c := by simpa using k1
              simp only [execOp, ho, Sem.run_bind, Instr.build, zeroValue, typeInfo, Sem.run_pure, run_program, Result.andThen_ok, e1, z1, run_underlying e2, hm, hparts, k1']
        | array n e =>
          simp only [kdOf] at h
          cases hte : tyOf P e with
          | none => simp [hte] at h
          | some te =>
            simp only [hte] at h
            obtain ⟨ie, de, f1, _, _, f4, _⟩ := tyOf_some hte
            cases hf : fillAV (fun i => some (i * te.size, te.size)) z ps with
            | none => simp [hf] at h
            | some out =>
              simp only [hf, Option.map_some, Option.some.injEq] at h
              subst h
              obtain ⟨c, k1, k2, k3⟩ := fill_sound z3 z4 q1 q2 hf
              refine ⟨.agg c, ?_, .agg k3 k2.1 k2.2⟩
              rw [f4] at k1
              simp only [execOp, ho, Sem.run_bind, Instr.build, zeroValue, typeInfo, Sem.run_pure, run_program, Result.andThen_ok, e1, z1, run_underlying e2, sizeOf, f1, hparts, k1]
        | _ => simp [kdOf] at h

theorem gives_load {t : TypeId} {x : Operand} (ho : o.op = .load t x) (r : FRel g0 h0 w0 σ g w a) (h : pureOp P σ (.load t x) = some v) : Gives P o a w g v := by
  simp only [pureOp] at h
  split at h
  · rename_i ti p ht hx
    split at h
    · rename_i cs off hr
      obtain ⟨u, k1, k2⟩ := run_loadAt' r.st.hp ht (r.ev hx) hr h
      exact ⟨u, by simp [execOp, ho, k1], k2⟩
    · cases h
  · cases h

theorem gives_nilCheck {x : Operand} (ho : o.op = .nilCheck x) (r : FRel g0 h0 w0 σ g w a) (h : pureOp P σ (.nilCheck x) = some v) : Gives P o a w g v := by
  refine ⟨a.eval x, ?_, ?_⟩
  · simp only [pureOp] at h
    split at h <;> first
      | (cases h; done)
      | (rename_i hx
         have hv := r.ev hx
         generalize hu : a.eval x = u at hv
         cases hv <;> simp [execOp, ho, hu])
  · simp only [pureOp] at h
    split at h <;> first
      | (cases h; done)
      | (rename_i hx; cases h; exact r.ev hx)

theorem Rep.of_lit {u v : Value} (h : Rep g u (.lit v)) : u = v ∧ plain v = true := by cases h with | lit h => exact ⟨rfl, h⟩

theorem gives_binOp {op : BinOp} {t t' : TypeId} {x y : Operand} (ho : o.op = .binOp op t x y t') (r : FRel g0 h0 w0 σ g w a) (h : pureOp P σ (.binOp op t x y t') = some v) : Gives P o a w g v := by
  simp only [pureOp] at h
  split at h
  · rename_i p q hx hy
    cases hb : binV P op t p q with
    | none => simp [hb] at h
    | some u =>
      simp only [hb, Option.map_some, Option.some.injEq] at h
      subst h
      obtain ⟨k1, k2, k3⟩ := run_binV P w hb
      have ex := (Rep.of_lit (r.ev hx)).1
      have ey := (Rep.of_lit (r.ev hy)).1
      exact ⟨u, by simp [execOp, ho, ex, ey, k1, k3], .lit k2⟩
  · rename_i as bs hx hy
    have hu := r.ev hx
    have hw := r.ev hy
    obtain ⟨cs, ex, e1, e2⟩ := RepL.of_agg hu
    obtain ⟨ds, ey, f1, f2⟩ := RepL.of_agg hw
    obtain ⟨⟨b, rfl, k1⟩, k2⟩ := aggEq_sound (w := w) e1 f1 h
    exact ⟨.bool b, by simp [execOp, ho, ex, ey, k1, k2], .lit rfl⟩
  · rename_i cs hx hy
    have hu := r.ev hx
    have ey := (Rep.of_lit (r.ev hy)).1
    generalize hux : a.eval x = ux at hu
    cases hu with
    | @np bb _ f h0 h1 h2 =>
      cases hb : nilCmp P op t false with
      | none => simp [hb] at h
      | some u =>
        simp only [hb, Option.map_some, Option.some.injEq] at h
        subst h
        obtain ⟨k1, k2, k3⟩ := run_nilCmp P w (p := some ⟨bb, 0, none⟩) hb
        exact ⟨u, by simp [execOp, ho, hux, ey, k1, k3], .lit k2⟩
  · rename_i id off hx hy
    have hu := r.ev hx
    have ey := (Rep.of_lit (r.ev hy)).1
    generalize hux : a.eval x = ux at hu
    cases hu with
    | @ptr ad _ _ h1 h2 =>
      cases hb : nilCmp P op t false with
      | none => simp [hb] at h
      | some u =>
        simp only [hb, Option.map_some, Option.some.injEq] at h
        subst h
        obtain ⟨k1, k2, k3⟩ := run_nilCmp P w (p := some ad) hb
        exact ⟨u, by simp [execOp, ho, hux, ey, k1, k3], .lit k2⟩
  · cases h

theorem gives_unOp {op : UnOp} {t : TypeId} {x : Operand} (ho : o.op = .unOp op t x) (r : FRel g0 h0 w0 σ g w a) (h : pureOp P σ (.unOp op t x) = some v) : Gives P o a w g v := by
  simp only [pureOp] at h
  split at h
  · rename_i b hx
    cases h
    exact ⟨_, by simp [execOp, ho, (Rep.of_lit (r.ev hx)).1, Op.unary], .lit rfl⟩
  · rename_i k n hx
    cases h
    exact ⟨_, by simp [execOp, ho, (Rep.of_lit (r.ev hx)).1, Op.unary, Op.intArith], .lit rfl⟩
  · cases h

theorem kdOf_int {d : TypeDesc} {k : IntKind} (h : kdOf d = .int k) : d = .int k := by cases d <;> simp [kdOf] at h; rw [h]
theorem kdOf_str {d : TypeDesc} (h : kdOf d = .str) : d = .string := by cases d <;> simp [kdOf] at h; rfl
theorem kdOf_sl {d : TypeDesc} {e : TypeId} (h : kdOf d = .sl e) : d = .slice e := by cases d <;> simp [kdOf] at h; rw [h]
theorem kdOf_arr {d : TypeDesc} {n : Nat} {e : TypeId} (h : kdOf d = .arr n e) : d = .array n e := by cases d <;> simp [kdOf] at h; rw [h.1, h.2]
theorem kdOf_st {d : TypeDesc} {fs : List (Nat × TypeId)} (h : kdOf d = .st fs) : ∃ F, d = .struct F ∧ fs = F.toList.map fun f => (f.offset, f.type) := by cases d <;> simp [kdOf] at h; exact ⟨_, rfl, h.symm⟩

theorem gives_convert {s d : TypeId} {x : Operand} (ho : o.op = .convert s d x) (r : FRel g0 h0 w0 σ g w a) (h : pureOp P σ (.convert s d x) = some v) : Gives P o a w g v := by
  simp only [pureOp] at h
  split at h
  · rename_i td k n hs hd hx
    obtain ⟨i1, d1, a1, a2, a3, _⟩ := tyOf_some hs
    obtain ⟨i2, d2, b1, b2, b3, _⟩ := tyOf_some hd
    split at h
    · rename_i k' hk
      cases h
      rw [b3] at hk
      have := kdOf_int hk; subst this
      exact ⟨_, by simp [execOp, ho, (Rep.of_lit (r.ev hx)).1, convert, run_underlying a2, run_underlying b2, Conv.intToInt], .lit rfl⟩
    · cases h
  · rename_i ts td q hs hd hx
    obtain ⟨i1, d1, a1, a2, a3, _⟩ := tyOf_some hs
    obtain ⟨i2, d2, b1, b2, b3, _⟩ := tyOf_some hd
    split at h
    · rename_i h1 h2
      cases h
      rw [a3] at h1; rw [b3] at h2
      have := kdOf_str h1; subst this
      have := kdOf_str h2; subst this
      exact ⟨_, by simp [execOp, ho, (Rep.of_lit (r.ev hx)).1, convert, run_underlying a2, run_underlying b2], .lit rfl⟩
    · cases h
  · cases h

theorem gives_makeFunc {f : Fn} {first cap : Array Operand} (ho : o.op = .makeFunc f first cap) (r : FRel g0 h0 w0 σ g w a) (h : pureOp P σ (.makeFunc f first cap) = some v) : Gives P o a w g v := by
  simp only [pureOp] at h
  split at h
  · rename_i p q hx hy
    cases h
    have e1 := r.evL hx
    have e2 := r.evL hy
    exact ⟨.func f (first.map a.eval) (cap.map a.eval), by simp [execOp, ho, Instr.makeFunc], .fn (by simpa using e1.1) (fun i c b k1 k2 => e1.2 i c b (by simpa using k1) k2) (by simpa using e2.1) (fun i c b k1 k2 => e2.2 i c b (by simpa using k1) k2)⟩
  · cases h

theorem getElem?_map_field {F : Array Field} {f off : Nat} {ft : TypeId} (h : (F.toList.map fun f => (f.offset, f.type))[f]? = some (off, ft)) : ∃ fd, F[f]? = some fd ∧ fd.offset = off ∧ fd.type = ft := by
  simp only [List.getElem?_map, Array.getElem?_toList, Option.map_eq_some_iff, Prod.mk.injEq] at h
  obtain ⟨fd, h1, h2, h3⟩ := h
  exact ⟨fd, h1, h2, h3⟩

theorem gives_fieldAddr {s : TypeId} {x : Operand} {f : Nat} (ho : o.op = .fieldAddr s x f) (r : FRel g0 h0 w0 σ g w a) (h : pureOp P σ (.fieldAddr s x f) = some v) : Gives P o a w g v := by
  simp only [pureOp] at h
  split at h
  · rename_i ti p ht hx
    obtain ⟨i1, d1, a1, a2, a3, _⟩ := tyOf_some ht
    split at h
    · rename_i fs hk
      rw [a3] at hk
      obtain ⟨F, rfl, rfl⟩ := kdOf_st hk
      split at h
      · rename_i off ft hf
        obtain ⟨fd, c1, c2, c3⟩ := getElem?_map_field hf
        split at h
        · rename_i tf htf
          obtain ⟨i2, d2, b1, b2, b3, b4, _⟩ := tyOf_some htf
          split at h
          · cases h
          · rename_i hz
            obtain ⟨ad, k1, k2⟩ := moved_sound (r.ev hx) h
            rw [← c3] at b1
            rw [b4] at hz
            rw [← c2] at k2
            exact ⟨_, by simp [execOp, ho, Instr.fieldAt, run_underlying a2, c1, k1, Instr.sureAddr, fieldPlace, sizeOf, typeInfo, b1, hz], k2⟩
        · cases h
      · cases h
    · cases h
  · cases h

theorem run_part {P : Program} {w : World} {t : TypeId} {ti : TI} (ht : tyOf P t = some ti) {cs : Array Value} {as : List AV} (hc : RepL g cs.toList as) (h1 : ∀ c ∈ cs.toList, c.oneCell' = true) {off : Nat} {v : AV} (h : valAt ti as off = some v) :
    ∃ u, (part t cs off).run P w = .ok u w ∧ Rep g u v := by
  obtain ⟨i, d, e1, e2, e3, e4, _⟩ := tyOf_some ht
  unfold valAt at h
  rw [e3, kd_agg] at h
  split at h
  · rename_i hrow
    split at h
    · cases h
      refine ⟨.agg (cs.extract off (off + i.size)), by simp [part, run_isAgg e2, hrow, sizeOf, typeInfo, e1], ?_⟩
      have := (hc.drop off).take ti.size
      have he : (cs.extract off (off + i.size)).toList = (cs.toList.drop off).take ti.size := by
        simp [e4, List.take_drop]
      exact .agg (fun c hc' => by rw [he] at hc'; exact h1 c (List.mem_of_mem_drop (List.mem_of_mem_take hc'))) (by rw [he]; exact this.1) (by rw [he]; exact this.2)
    · cases h
  · rename_i hrow
    obtain ⟨u, f1, f2⟩ := hc.get h
    simp only [Array.getElem?_toList] at f1
    exact ⟨u, by simp [part, run_isAgg e2, hrow, f1], f2⟩

theorem gives_field {s : TypeId} {x : Operand} {f : Nat} (ho : o.op = .field s x f) (r : FRel g0 h0 w0 σ g w a) (h : pureOp P σ (.field s x f) = some v) : Gives P o a w g v := by
  simp only [pureOp] at h
  split at h
  · rename_i ti cs ht hx
    obtain ⟨i1, d1, a1, a2, a3, _⟩ := tyOf_some ht
    obtain ⟨vs, q1, q2, q3⟩ := RepL.of_agg (r.ev hx)
    split at h
    · rename_i fs hk
      rw [a3] at hk
      obtain ⟨F, rfl, rfl⟩ := kdOf_st hk
      split at h
      · rename_i off ft hf
        obtain ⟨fd, c1, c2, c3⟩ := getElem?_map_field hf
        split at h
        · rename_i tf htf
          obtain ⟨u, k1, k2⟩ := run_part (w := w) htf q2 q3 h
          exact ⟨u, by simp [execOp, ho, Instr.field, run_underlying a2, c1, q1, asAgg, c2, c3, k1], k2⟩
        · cases h
      · cases h
    · cases h
  · cases h

theorem gives_extract {x : Operand} {i : Nat} (ho : o.op = .extract x i) (r : FRel g0 h0 w0 σ g w a) (h : pureOp P σ (.extract x i) = some v) : Gives P o a w g v := by
  simp only [pureOp] at h
  split at h
  · rename_i vs hx
    have hv := r.ev hx
    generalize hu : a.eval x = u at hv
    cases hv with
    | tup h1 h2 =>
      rename_i cs
      obtain ⟨c, f1, f2⟩ := RepL.get ⟨h1, h2⟩ h
      simp only [Array.getElem?_toList] at f1
      exact ⟨c, by simp [execOp, ho, hu, Instr.extract, f1], f2⟩
  · cases h
end
end Go.Ab
