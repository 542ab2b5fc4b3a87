/- Pointers compared; maps that are caches: made, asked, written. Conditions: those that each theorem names. -/
import Derived.Test.YtfnmdmadaljjkaaCch
import Derived.MapKept
set_option linter.unusedVariables false
set_option linter.unusedSimpArgs false
namespace Go.Ab
open Go.MapKept (heap_set)

/-- A pointer to what stays, or nil. -/
def isP (a : AV) : Prop := a = .lit (.pointer none) ∨ ∃ cs, a = .np cs
/-- The same value may be both. -/
def SameV (a b : AV) : Prop := ∃ g v, Rep g v a ∧ Rep g v b
def PtrTy (P : Program) (t : TypeId) : Prop := ∃ e j, P.underlying t = some (.pointer e) ∧ P.info? e = some j ∧ j.size ≠ 0

section
variable {P : Program} {g : Gh} {h : Hp} {w : World}
theorem isP_val {v : Value} {a : AV} (ha : isP a) (hv : Rep g v a) : v = .pointer none ∨ ∃ b, v = .pointer (some ⟨b, 0, none⟩) ∧ g.cch b = some 0 := by
  rcases ha with rfl | ⟨cs, rfl⟩
  · exact .inl (Rep.of_lit hv).1
  · cases hv with | np f h0 h1 h2 => exact .inr ⟨_, rfl, h0⟩
theorem run_eqP (r : HRel g h w) {pt : TypeId} (ht : PtrTy P pt) {u v : Value} {a b : AV} (ha : isP a) (hb : isP b) (hu : Rep g u a) (hv : Rep g v b) (d : Nat) :
    ∃ q : Bool, (Op.equalIn (d + 1) pt u v).run P w = .ok q w ∧ (q = true → u = v) := by
  obtain ⟨e, j, hp, hj, hs⟩ := ht
  rcases isP_val ha hu with rfl | ⟨x, rfl, hx⟩
  · rcases isP_val hb hv with rfl | ⟨y, rfl, hy⟩
    · exact ⟨true, by simp [Op.equalIn, run_underlying hp], fun _ => rfl⟩
    · exact ⟨false, by simp [Op.equalIn, run_underlying hp], fun q => by cases q⟩
  · rcases isP_val hb hv with rfl | ⟨y, rfl, hy⟩
    · exact ⟨false, by simp [Op.equalIn, run_underlying hp], fun q => by cases q⟩
    · by_cases hxy : x = y
      · subst hxy
        exact ⟨true, by simp [Op.equalIn, run_underlying hp, sizeOf, typeInfo, hj, run_sameAddr_same], fun _ => rfl⟩
      · obtain ⟨vs, ty, f1⟩ := r.cel x hx
        obtain ⟨us, tz, f2⟩ := r.cel y hy
        refine ⟨false, ?_, fun q => by cases q⟩
        simp [Op.equalIn, run_underlying hp, sizeOf, typeInfo, hj, hs, run_sameAddr_other w (a := ⟨x, 0, none⟩) (b := ⟨y, 0, none⟩) (fun q => hxy (by cases q; rfl)) f1 f2]

variable {σ : St}
/-- Two pointers: if they are told the same, then they are. -/
theorem stepK_eql_np {K : St → Prop} {d : Option Tmp} {t t' t2 : TypeId} {x y : Operand} {pos : String} {af : Array Edge} {gu : Option (Nat × Bool)} {p q : AV} (ht : PtrTy P t) (hp : isP p) (hq : isP q)
    (hx : ev σ x = some p) (hy : ev σ y = some q) (h : ∀ b : Bool, (b = true → SameV p q) → K (σ.put d (.lit (.bool b)))) :
    stepK P ⟨d, .binOp .eql t x y t', t2, pos, af, gu⟩ none K σ := by
  intro g0 h0 w0 g w a Q r
  have hu := r.ev hx
  have hv := r.ev hy
  obtain ⟨b, e1, e2⟩ := run_eqP (P := P) r.st.hp ht hp hq hu hv 9999
  have he : (execOp a.eval ⟨d, .binOp .eql t x y t', t2, pos, af, gu⟩).run P w = .ok (.value (.bool b)) w := by
    have k1 : (Op.equal t (a.eval x) (a.eval y)).run P w = .ok b w := e1
    rcases isP_val hp hu with q1 | ⟨_, q1, _⟩ <;> rcases isP_val hq hv with q2 | ⟨_, q2, _⟩ <;> rw [q1, q2] at k1 <;> simp [execOp, q1, q2, eqGuard, binOp, k1]
  unfold Oper.wp
  rw [he]
  exact ⟨_, g, h b (fun hb => ⟨g, a.eval x, hu, by rw [e2 hb]; exact hv⟩), r.put d (.lit rfl)⟩

/-! Keys. -/
/-- Keys of a kind are compared, and never refused. -/
structure KeyOk (P : Program) (kt : TypeId) (S : AV → Prop) : Prop where
  desc : ∃ d, P.underlying kt = some d ∧ ∀ a b, Instr.sameNow d a b = none
  eq : ∀ (g : Gh) (h : Hp) (w : World) (u v : Value) (a b : AV), HRel g h w → S a → S b → Rep g u a → Rep g v b → ∃ q : Bool, (Op.equal kt u v).run P w = .ok q w ∧ (q = true → u = v)
  chk : ∀ (g : Gh) (h : Hp) (w : World) (u : Value) (a : AV) (e : Bool), HRel g h w → S a → Rep g u a → (Instr.checkKey e 10000 kt u).run P w = .ok () w
  bits : ∀ (g : Gh) (u : Value) (a : AV), S a → Rep g u a → Instr.sameBits 10000 u u = true

theorem run_findAsking {kt : TypeId} {S : AV → Prop} (hk : KeyOk P kt S) (r : HRel g h w) {u : Value} {a : AV} (ha : S a) (hu : Rep g u a) : ∀ (l : List MapEntry) (i : Nat), (∀ e ∈ l, ∃ b, S b ∧ Rep g e.key b) →
    ∃ q, (Instr.findAsking kt u l i).run P w = .ok q w ∧ (q = none ∨ ∃ j e, q = some (i + j, e.val) ∧ l[j]? = some e ∧ e.key = u)
  | [], i, _ => ⟨none, by simp [Instr.findAsking], .inl rfl⟩
  | e :: es, i, hl => by
    obtain ⟨b, hb1, hb2⟩ := hl e (by simp)
    obtain ⟨q, e1, e2⟩ := hk.eq g h w u e.key a b r ha hb1 hu hb2
    cases q with
    | true => exact ⟨_, by simp [Instr.findAsking, e1], .inr ⟨0, e, rfl, rfl, (e2 rfl).symm⟩⟩
    | false =>
      obtain ⟨q, f1, f2⟩ := run_findAsking hk r ha hu es (i + 1) (fun e he => hl e (by simp [he]))
      refine ⟨q, by simp [Instr.findAsking, e1, f1], f2.imp id fun ⟨j, e', g1, g2, g3⟩ => ⟨j + 1, e', by rw [g1]; congr 2; omega, by simpa using g2, g3⟩⟩
theorem run_findKey' {kt : TypeId} {S : AV → Prop} (hk : KeyOk P kt S) (r : HRel g h w) {u : Value} {a : AV} (ha : S a) (hu : Rep g u a) (l : List MapEntry) (hl : ∀ e ∈ l, ∃ b, S b ∧ Rep g e.key b) :
    ∃ q, (Instr.findKey kt u l).run P w = .ok q w ∧ (q = none ∨ ∃ j e, q = some (j, e.val) ∧ l[j]? = some e ∧ e.key = u) := by
  obtain ⟨d, hd, hs⟩ := hk.desc
  cases l with
  | nil => exact ⟨none, by simp [Instr.findKey, run_underlying hd, Instr.findNow], .inl rfl⟩
  | cons e es =>
    obtain ⟨q, f1, f2⟩ := run_findAsking hk r ha hu (e :: es) 0 hl
    refine ⟨q, by simp [Instr.findKey, run_underlying hd, Instr.findNow, hs, f1], f2.imp id fun ⟨j, e', g1, g2, g3⟩ => ⟨j, e', by rw [g1, Nat.zero_add], g2, g3⟩⟩

/-! Caches. -/
theorem cell_of_map {b o : Nat} {es : Array MapEntry} {k : Nat} (hb : w.heap[b]? = some (.map es k)) : w.cell? ⟨b, o, none⟩ = none := by simp [World.cell?, hb]
theorem HRel.addMap (r : HRel g h w) (t : Nat) : ∃ g', Step1 g h w g' h (w.alloc (.map #[] 0)) ∧ g'.cch w.heap.size = some (t + 1) := by
  have nob : ∀ s, g.cch w.heap.size ≠ some s := fun s q => by
    cases s with
    | zero => obtain ⟨vs, ty, f1⟩ := r.cel _ q; exact Nat.lt_irrefl _ (block_lt f1)
    | succ s => obtain ⟨es, k, f1, _⟩ := r.cch _ s q; exact Nat.lt_irrefl _ (block_lt f1)
  let g' : Gh := { g with cch := fun b => if b = w.heap.size then some (t + 1) else g.cch b }
  have hx : Ext g g' := ⟨Nat.le_refl _, fun _ _ _ e => e, fun _ _ => rfl, fun _ _ => tokMono.refl _, fun b s e => by
    by_cases hb : b = w.heap.size
    · subst hb; exact absurd e (nob s)
    · simp only [g', if_neg hb]; exact e⟩
  refine ⟨g', ⟨⟨r.nx, fun b o v e => ?_, fun id cs e => ?_, fun s k e => ?_, r.bxbx, r.tktk, r.bxtk, r.fresh, fun b s e => ?_, fun b e => ?_⟩, hx, Keeps.alloc _ _ _, fun b l => ?_, fun b o v e => .inl e⟩, by simp [g']⟩
  · obtain ⟨f1, f2⟩ := r.mem b o v e
    exact ⟨cell_alloc f1, f2⟩
  · obtain ⟨b, vs, ty, f1, f2, f3, f4, f5⟩ := r.box id cs e
    exact ⟨b, vs, ty, f1, heap_alloc f2, f3.mono hx, f4, f5⟩
  · obtain ⟨b, c, vs, ty, f1, f2, f3, f4, f5, f6, f7, f8, f9⟩ := r.tok s k e
    exact ⟨b, c, vs, ty, f1, heap_alloc f2, f3, f4, f5, f6, (Lies.mono hx ⟨f6, f7⟩).2, f8, f9⟩
  · by_cases hb : b = w.heap.size
    · subst hb
      exact ⟨#[], 0, heap_alloc_new w _, fun e he => by simp at he⟩
    · simp only [g', if_neg hb] at e
      obtain ⟨es, k, f1, f2⟩ := r.cch b s e
      exact ⟨es, k, heap_alloc f1, f2.mono hx.mem hx.cch⟩
  · by_cases hb : b = w.heap.size
    · simp [g', hb] at e
    · simp only [g', if_neg hb] at e
      obtain ⟨vs, ty, f1⟩ := r.cel b e
      exact ⟨vs, ty, heap_alloc f1⟩
  · rcases l with l | l | ⟨s, l⟩
    · exact .inl (.inl l)
    · exact .inl (.inr (.inl l))
    · by_cases hb : b = w.heap.size
      · exact .inr (by omega)
      · simp only [g', if_neg hb] at l
        exact .inl (.inr (.inr ⟨s, l⟩))
theorem HRel.setMap (r : HRel g h w) {b t : Nat} (hc : g.cch b = some (t + 1)) {es : Array MapEntry} {k : Nat} (hb : w.heap[b]? = some (.map es k)) (es' : Array MapEntry) (k' : Nat) (ok : CchOk g t es') :
    Step1 g h w g h { w with heap := w.heap.setIfInBounds b (.map es' k') } := by
  obtain ⟨same, other⟩ := heap_set (o' := .map es' k') hb
  have old : ∀ b' vs ty, w.heap[b']? = some (Obj.cells vs ty (0, 0)) → (w.heap.setIfInBounds b (.map es' k'))[b']? = some (Obj.cells vs ty (0, 0)) := fun b' vs ty e => by
    rw [other b' (fun q => by subst q; rw [hb] at e; cases e)]; exact e
  refine ⟨⟨r.nx, fun b' o v e => ?_, fun id cs e => ?_, fun s k e => ?_, r.bxbx, r.tktk, r.bxtk, r.fresh, fun b' s e => ?_, fun b' e => ?_⟩, .refl _, ⟨rfl, rfl, rfl, Nat.le_refl _, by simp, fun b' _ hF => other b' (fun q => by subst q; exact hF (.inr (.inr ⟨t, hc⟩)))⟩, fun b l => .inl l, fun b o v e => .inl e⟩
  · obtain ⟨f1, f2⟩ := r.mem b' o v e
    have hne : b' ≠ b := fun q => by subst q; rw [cell_of_map hb] at f1; cases f1
    exact ⟨by rw [World.cell?_of_block (w := w) (other b' hne)]; exact f1, f2⟩
  · obtain ⟨b', vs, ty, f1, f2, f3⟩ := r.box id cs e
    exact ⟨b', vs, ty, f1, old _ _ _ f2, f3⟩
  · obtain ⟨b', c, vs, ty, f1, f2, f3⟩ := r.tok s k e
    exact ⟨b', c, vs, ty, f1, old _ _ _ f2, f3⟩
  · by_cases hbb : b' = b
    · subst hbb
      rw [hc] at e; cases e
      exact ⟨es', k', same, ok⟩
    · obtain ⟨es1, k1, f1, f2⟩ := r.cch b' s e
      exact ⟨es1, k1, (other b' hbb).trans f1, f2⟩
  · obtain ⟨vs, ty, f1⟩ := r.cel b' e
    exact ⟨vs, ty, old _ _ _ f1⟩

theorem stepK_makeMap {K : St → Prop} {d : Option Tmp} {t t2 : TypeId} {pos : String} {af : Array Edge} {gu : Option (Nat × Bool)} (tag : Nat) (k : K (σ.put d (.mp tag))) :
    stepK P ⟨d, .makeMap t none, t2, pos, af, gu⟩ none K σ := by
  intro g0 h0 w0 g w a Q r
  obtain ⟨g', s, hc⟩ := r.st.hp.addMap tag
  have he : (execOp a.eval ⟨d, .makeMap t none, t2, pos, af, gu⟩).run P w = .ok (.value (.map (some w.heap.size))) (w.alloc (.map #[] 0)) := by
    simp [execOp, Instr.makeMap, run_newObj]
  unfold Oper.wp
  rw [he]
  exact ⟨_, g', k, (r.heap s).put d (.mp hc)⟩

/-- A cache is asked: nothing, or what it holds for the same key. -/
theorem stepK_lookup {K : St → Prop} {d : Option Tmp} {t t2 kt et : TypeId} {x y : Operand} {pos : String} {af : Array Edge} {gu : Option (Nat × Bool)} {tag : Nat} {ka za : AV} {zv : Value} {S : AV → Prop}
    (hm : P.underlying t = some (.map kt et)) (hk : KeyOk P kt S) (hS : ∀ kb va, cinv tag kb va → S kb) (hz : (P.info? et).bind (·.zero) = some zv) (hzr : ∀ g, Rep g zv za)
    (hx : ev σ x = some (.mp tag)) (hy : ev σ y = some ka) (ha : S ka) (h0 : K (σ.put d za)) (h1 : ∀ kb va, cinv tag kb va → SameV ka kb → K (σ.put d va)) :
    stepK P ⟨d, .lookup t x y false, t2, pos, af, gu⟩ none K σ := by
  intro g0 h0' w0 g w a Q r
  have hu := r.ev hy
  have hmv := r.ev hx
  obtain ⟨b, hb, hc⟩ : ∃ b, a.eval x = .map (some b) ∧ g.cch b = some (tag + 1) := by
    generalize a.eval x = u at hmv
    cases hmv with | mp h => exact ⟨_, rfl, h⟩
  obtain ⟨es, k, e1, e2⟩ := r.st.hp.cch b tag hc
  obtain ⟨q, f1, f2⟩ := run_findKey' hk r.st.hp ha hu es.toList (fun e he => by
    obtain ⟨kb, va, c1, c2, c3⟩ := e2 e he
    exact ⟨kb, hS kb va c1, c2.mono (Ext.gc_up g)⟩)
  have ck := hk.chk g _ w _ ka es.isEmpty r.st.hp ha hu
  obtain ⟨i, i1, z1⟩ := Option.bind_eq_some_iff.1 hz
  rcases f2 with rfl | ⟨j, e, rfl, g1, g2⟩
  · have he : (execOp a.eval ⟨d, .lookup t x y false, t2, pos, af, gu⟩).run P w = .ok (.value zv) w := by
      simp [execOp, Instr.lookup, run_underlying hm, hb, Go.MapKept.run_getObj_map e1, ck, f1, zeroValue, typeInfo, i1, z1]
    unfold Oper.wp
    rw [he]
    exact ⟨_, g, h0, r.put d (hzr g)⟩
  · obtain ⟨kb, va, c1, c2, c3⟩ := e2 e (by simpa using List.mem_of_getElem? g1)
    have he : (execOp a.eval ⟨d, .lookup t x y false, t2, pos, af, gu⟩).run P w = .ok (.value e.val) w := by
      simp [execOp, Instr.lookup, run_underlying hm, hb, Go.MapKept.run_getObj_map e1, ck, f1]
    unfold Oper.wp
    rw [he]
    exact ⟨_, g, h1 kb va c1 ⟨g, a.eval y, hu, by rw [← g2]; exact c2.mono (Ext.gc_up g)⟩, r.put d (c3.mono (Ext.gc_up g))⟩

theorem mem_modify {es : Array MapEntry} {i : Nat} {f : MapEntry → MapEntry} {e' : MapEntry} (h : e' ∈ (es.modify i f).toList) : e' ∈ es.toList ∨ ∃ e, es[i]? = some e ∧ e' = f e := by
  obtain ⟨j, hj⟩ := List.getElem?_of_mem h
  rw [Array.getElem?_toList, Array.getElem?_modify] at hj
  split at hj
  · rename_i hij
    cases q : es[j]? with
    | none => rw [q] at hj; cases hj
    | some e => rw [q] at hj; cases hj; exact .inr ⟨e, by rw [hij]; exact q, rfl⟩
  · exact .inl (by simpa using Array.mem_of_getElem? hj)

/-- A cache is written: what is put must be of its kind. -/
theorem stepK_mapUpdate {K : St → Prop} {d : Option Tmp} {t t2 kt et : TypeId} {m x y : Operand} {pos : String} {af : Array Edge} {gu : Option (Nat × Bool)} {tag : Nat} {ka va : AV} {S : AV → Prop}
    (hm : P.underlying t = some (.map kt et)) (hk : KeyOk P kt S) (hS : ∀ kb va, cinv tag kb va → S kb)
    (hx : ev σ m = some (.mp tag)) (hy : ev σ x = some ka) (hv : ev σ y = some va) (ha : S ka) (hc : cinv tag ka va) (g1 : GP ka) (g2 : GP va) (h0 : K (σ.drop d)) :
    stepK P ⟨d, .mapUpdate t m x y, t2, pos, af, gu⟩ none K σ := by
  intro g0 h0' w0 g w a Q r
  have hu := r.ev hy
  have hvv := r.ev hv
  have hmv := r.ev hx
  obtain ⟨b, hb, hcb⟩ : ∃ b, a.eval m = .map (some b) ∧ g.cch b = some (tag + 1) := by
    generalize a.eval m = u at hmv
    cases hmv with | mp h => exact ⟨_, rfl, h⟩
  obtain ⟨es, k, e1, e2⟩ := r.st.hp.cch b tag hcb
  obtain ⟨q, f1, f2⟩ := run_findKey' hk r.st.hp ha hu es.toList (fun e he => by
    obtain ⟨kb, va, c1, c2, c3⟩ := e2 e he
    exact ⟨kb, hS kb va c1, c2.mono (Ext.gc_up g)⟩)
  have ck := hk.chk g _ w _ ka false r.st.hp ha hu
  have bt := hk.bits g _ ka ha hu
  rcases f2 with rfl | ⟨j, e, rfl, q1, q2⟩
  · have ok : CchOk g tag (es.push { key := a.eval x, val := a.eval y, born := k }) := fun e he => by
      simp only [Array.toList_push, List.mem_append, List.mem_singleton] at he
      rcases he with he | rfl
      · exact e2 e he
      · exact ⟨ka, va, hc, g1.gc hu, g2.gc hvv⟩
    have he : (execOp a.eval ⟨d, .mapUpdate t m x y, t2, pos, af, gu⟩).run P w = .ok .skip { w with heap := w.heap.setIfInBounds b (.map (es.push { key := a.eval x, val := a.eval y, born := k }) (k + 1)) } := by
      simp [execOp, Instr.mapUpdate, run_underlying hm, hb, Go.MapKept.run_getObj_map e1, ck, f1, Go.MapKept.run_setObj_map _ e1]
    unfold Oper.wp
    rw [he]
    exact ⟨_, g, h0, (r.heap (r.st.hp.setMap hcb e1 _ _ ok)).drop d⟩
  · have hj : es[j]? = some e := by simpa using q1
    have ok : CchOk g tag (es.modify j fun e => { e with key := a.eval x, val := a.eval y }) := fun e' he => by
      rcases mem_modify he with he | ⟨e0, _, rfl⟩
      · exact e2 e' he
      · exact ⟨ka, va, hc, g1.gc hu, g2.gc hvv⟩
    have he : (execOp a.eval ⟨d, .mapUpdate t m x y, t2, pos, af, gu⟩).run P w = .ok .skip { w with heap := w.heap.setIfInBounds b (.map (es.modify j fun e => { e with key := a.eval x, val := a.eval y }) k) } := by
      simp [execOp, Instr.mapUpdate, run_underlying hm, hb, Go.MapKept.run_getObj_map e1, ck, f1, Go.MapKept.run_setObj_map _ e1, hj, Instr.keyThatStays, q2, bt]
    unfold Oper.wp
    rw [he]
    exact ⟨_, g, h0, (r.heap (r.st.hp.setMap hcb e1 _ _ ok)).drop d⟩

theorem run_checkP {kt : TypeId} (em : Bool) (ht : PtrTy P kt) {u : Value} {a : AV} (ha : isP a) (hu : Rep g u a) (n : Nat) : (Instr.checkKey em (n + 1) kt u).run P w = .ok () w := by
  obtain ⟨e, j, h1, h2, h3⟩ := ht
  rcases isP_val ha hu with rfl | ⟨b, rfl, _⟩ <;> simp [Instr.checkKey, run_underlying h1]
theorem bitsP {u : Value} {a : AV} (ha : isP a) (hu : Rep g u a) (n : Nat) : Instr.sameBits n u u = true := by
  rcases isP_val ha hu with rfl | ⟨b, rfl, _⟩ <;> simp [Instr.sameBits]
/-- Keys that are one pointer. -/
theorem KeyOk.ptr {kt : TypeId} (ht : PtrTy P kt) : KeyOk P kt isP := by
  obtain ⟨e, j, h1, h2, h3⟩ := ht
  refine ⟨⟨_, h1, fun a b => rfl⟩, fun g h w u v a b r ha hb hu hv => run_eqP r ⟨e, j, h1, h2, h3⟩ ha hb hu hv 9999, fun g h w u a em r ha hu => ?_, fun g u a ha hu => ?_⟩
  · exact run_checkP em ⟨e, j, h1, h2, h3⟩ ha hu 9999
  · exact bitsP ha hu 10000
/-- Keys that are two pointers. -/
def isPP (a : AV) : Prop := ∃ x y, a = .agg [x, y] ∧ isP x ∧ isP y
theorem isPP_val {u : Value} {a : AV} (ha : isPP a) (hu : Rep g u a) : ∃ p q x y, u = .agg #[p, q] ∧ isP x ∧ isP y ∧ Rep g p x ∧ Rep g q y := by
  obtain ⟨x, y, rfl, hx, hy⟩ := ha
  obtain ⟨cs, rfl, h1, _⟩ := RepL.of_agg hu
  have hl : cs.toList.length = 2 := h1.1
  obtain ⟨p, q, hpq⟩ : ∃ p q, cs.toList = [p, q] := by
    match hcs : cs.toList, hl with
    | [p, q], _ => exact ⟨p, q, rfl⟩
  have : cs = #[p, q] := by rw [← Array.toArray_toList (xs := cs), hpq]
  subst this
  exact ⟨p, q, x, y, rfl, hx, hy, h1.2 0 p x rfl rfl, h1.2 1 q y rfl rfl⟩
/-- A struct of two pointers, side by side. -/
def PairTy (P : Program) (t : TypeId) : Prop := ∃ f1 f2, P.underlying t = some (.struct #[f1, f2]) ∧ f1.name ≠ "_" ∧ f2.name ≠ "_" ∧ f1.offset = 0 ∧ f2.offset = 1 ∧ PtrTy P f1.type ∧ PtrTy P f2.type ∧ P.stoodInHeld t = false
theorem run_partP {t : TypeId} (ht : PtrTy P t) {xs : Array Value} {off : Nat} {v : Value} (h : xs[off]? = some v) : (part t xs off).run P w = .ok v w := by
  obtain ⟨e, j, h1, _⟩ := ht
  simp [part, Sem.run_bind, run_isAgg h1, TypeDesc.isRow, h]
theorem KeyOk.pair {kt : TypeId} (ht : PairTy P kt) : KeyOk P kt isPP := by
  obtain ⟨f1, f2, h1, n1, n2, o1, o2, t1, t2, hs⟩ := ht
  refine ⟨⟨_, h1, fun a b => rfl⟩, fun g h w u v a b r ha hb hu hv => ?_, fun g h w u a em r ha hu => ?_, fun g u a ha hu => ?_⟩
  · obtain ⟨p, q, x, y, rfl, hx, hy, hp, hq⟩ := isPP_val ha hu
    obtain ⟨p', q', x', y', rfl, hx', hy', hp', hq'⟩ := isPP_val hb hv
    obtain ⟨b1, e1, c1⟩ := run_eqP (w := w) r t1 hx hx' hp hp' 9998
    obtain ⟨b2, e2, c2⟩ := run_eqP (w := w) r t2 hy hy' hq hq' 9998
    have hf : P.fieldsOf kt = #[f1, f2] := by simp [Program.fieldsOf, h1]
    have p1 := run_partP (w := w) t1 (xs := #[p, q]) (off := f1.offset) (v := p) (by rw [o1]; rfl)
    have p2 := run_partP (w := w) t2 (xs := #[p, q]) (off := f2.offset) (v := q) (by rw [o2]; rfl)
    have q1 := run_partP (w := w) t1 (xs := #[p', q']) (off := f1.offset) (v := p') (by rw [o1]; rfl)
    have q2 := run_partP (w := w) t2 (xs := #[p', q']) (off := f2.offset) (v := q') (by rw [o2]; rfl)
    have k : (Op.equal kt (.agg #[p, q]) (.agg #[p', q'])).run P w = .ok (b1 && b2) w := by
      have := run_equalIn_struct w 9999 kt #[p, q] #[p', q'] (by rw [hf]; exact h1) hs
      rw [show Op.equal kt (.agg #[p, q]) (.agg #[p', q']) = Op.equalIn (9999 + 1) kt (.agg #[p, q]) (.agg #[p', q']) from rfl, this, hf]
      simp only [Op.eqFields, if_pos n1, if_pos n2, Sem.run_bind, p1, p2, q1, q2, e1, e2, Result.andThen_ok, Sem.run_ite]
      cases b1 <;> cases b2 <;> simp [e2]
    refine ⟨_, k, fun hb => ?_⟩
    simp only [Bool.and_eq_true] at hb
    rw [c1 hb.1, c2 hb.2]
  · obtain ⟨p, q, x, y, rfl, hx, hy, hp, hq⟩ := isPP_val ha hu
    have k1 := run_checkP (w := w) em t1 hx hp 9998
    have k2 := run_checkP (w := w) em t2 hy hq 9998
    have p1 := run_partP (w := w) t1 (xs := #[p, q]) (off := f1.offset) (v := p) (by rw [o1]; rfl)
    have p2 := run_partP (w := w) t2 (xs := #[p, q]) (off := f2.offset) (v := q) (by rw [o2]; rfl)
    show (Instr.checkKey em (9999 + 1) _ _).run P w = _
    unfold Instr.checkKey
    simp only [Sem.run_bind, run_underlying h1, Result.andThen_ok]
    rw [← Array.forIn_toList]
    simp [n1, n2, p1, p2, k1, k2]
  · obtain ⟨p, q, x, y, rfl, hx, hy, hp, hq⟩ := isPP_val ha hu
    have k1 := bitsP hx hp 9999
    have k2 := bitsP hy hq 9999
    show Instr.sameBits (9999 + 1) _ _ = true
    unfold Instr.sameBits
    simp [k1, k2]
end
end Go.Ab
