/- The rest of the operations that change nothing: indices, slice expressions, lengths, the lesser and the greater of two. Conditions: those that each theorem names. -/
import Derived.Test.YtfnmdmadaljjkaaPureSound
namespace Go.Ab

section
variable {P : Program} {g0 : Gh} {h0 : Hp} {w0 : World} {σ : St} {g : Gh} {w : World} {a : Act} {o : Oper} {v : AV}

theorem evInt {x : Operand} {n : Int} (r : FRel g0 h0 w0 σ g w a) (h : (ev σ x).bind intOfAV = some n) : ∃ k, a.eval x = .int k n := by
  cases hx : ev σ x with
  | none => simp [hx] at h
  | some b =>
    simp only [hx, Option.bind_some] at h
    unfold intOfAV at h
    split at h
    · rename_i k m
      cases h
      exact ⟨k, (Rep.of_lit (r.ev hx)).1⟩
    · cases h

theorem run_tyUnder {t : TypeId} {ti : TI} (h : tyOf P t = some ti) : ∃ d, (underlying t).run P w = .ok d w ∧ ti.kd = kdOf d := by
  obtain ⟨i, d, _, e2, e3, _⟩ := tyOf_some h
  exact ⟨d, run_underlying e2 w, e3⟩

theorem run_sizeOf {t : TypeId} {ti : TI} (h : tyOf P t = some ti) : (sizeOf t).run P w = .ok ti.size w := by
  obtain ⟨i, d, e1, _, _, e4, _⟩ := tyOf_some h
  simp [sizeOf, typeInfo, e1, e4]

theorem gives_indexAddr {t : TypeId} {x i : Operand} (ho : o.op = .indexAddr t x i) (r : FRel g0 h0 w0 σ g w a) (h : pureOp P σ (.indexAddr t x i) = some v) : Gives P o a w g v := by
  simp only [pureOp] at h
  split at h
  · rename_i ti xs full n ht hx hi
    obtain ⟨d, u1, u2⟩ := run_tyUnder (w := w) ht
    obtain ⟨k, hk⟩ := evInt r hi
    split at h
    · rename_i e hkd
      rw [u2] at hkd
      have := kdOf_sl hkd; subst this
      split at h
      · rename_i te hte
        split at h
        · rename_i hb
          cases h
          obtain ⟨b1, b2, b3⟩ := hb
          have hv := r.ev hx
          generalize hu : a.eval x = u at hv
          cases hv with
          | vecN => simp at b2; omega
          | vecE _ => simp at b2; omega
          | @vec b off cap s _ _ f h1 h2 h3 h4 h5 =>
            have hn : n.toNat < xs.length := by omega
            have hget : xs[n.toNat]? = some (xs.getD n.toNat []) := by rw [List.getD_eq_getElem?_getD, List.getElem?_eq_getElem hn]; rfl
            have hs : te.size = s := by rw [← b3]; exact h1 _ (List.mem_of_getElem? hget)
            refine ⟨.pointer (some ⟨b, off + n.toNat * te.size + 0, none⟩), ?_, .pp (f n.toNat) (fun j c hc => ?_) (fun j c hc => ?_)⟩
            · simp [execOp, ho, Instr.indexAt, hk, hu, asIntOf, u1, run_sizeOf hte, b1, b2, Addr.add_eq]
            · rw [hs]; exact h4 _ _ _ _ hget hc
            · exact h5 _ _ _ _ hget hc
        · cases h
      · cases h
    · cases h
  · rename_i ti tk m n ht hx hi
    obtain ⟨d, u1, u2⟩ := run_tyUnder (w := w) ht
    obtain ⟨k, hk⟩ := evInt r hi
    split at h
    · rename_i e kk hkd hlk
      rw [u2] at hkd
      have := kdOf_sl hkd; subst this
      split at h
      · rename_i te hte
        split at h
        · rename_i hb
          cases h
          obtain ⟨b1, b2, b3, b4⟩ := hb
          obtain ⟨bb, c, vs, ty, f1, _⟩ := r.st.hp.tok tk kk hlk
          have hv := r.ev hx
          generalize hu : a.eval x = u at hv
          cases hv with
          | own h1 h2 =>
            rename_i ad cap
            have := (h2 bb c _ f1).2 b3
            obtain ⟨rfl, rfl⟩ := this
            refine ⟨.pointer (some ⟨bb, n.toNat * te.size, none⟩), ?_, .ep h1 (fun b' c' m' q => ⟨(h2 b' c' m' q).1, fun q' => ?_⟩)⟩
            · simp [execOp, ho, Instr.indexAt, hk, hu, asIntOf, u1, run_sizeOf hte, b1, b2, Addr.add_eq]
            · have := (h2 b' c' m' q).2 q'
              simp only [Option.some.injEq, Addr.mk.injEq] at this
              rw [b4, Nat.add_zero, this.1.1]
        · cases h
      · cases h
    · cases h
  · rename_i ti p n _ _ ht hx hi
    obtain ⟨d, u1, u2⟩ := run_tyUnder (w := w) ht
    obtain ⟨k, hk⟩ := evInt r hi
    split at h
    · rename_i len e hkd
      rw [u2] at hkd
      have := kdOf_arr hkd; subst this
      split at h
      · rename_i te hte
        split at h
        · rename_i hb
          obtain ⟨ad, q1, q2⟩ := moved_sound (r.ev hx) h
          exact ⟨_, by simp [execOp, ho, Instr.indexAt, hk, q1, asIntOf, u1, run_sizeOf hte, hb.1, hb.2, Instr.sureAddr], q2⟩
        · cases h
      · cases h
    · cases h
  · cases h

theorem gives_index {t : TypeId} {x i : Operand} (ho : o.op = .index t x i) (r : FRel g0 h0 w0 σ g w a) (h : pureOp P σ (.index t x i) = some v) : Gives P o a w g v := by
  simp only [pureOp] at h
  split at h
  · rename_i ti s n ht hx hi
    obtain ⟨d, u1, u2⟩ := run_tyUnder (w := w) ht
    obtain ⟨k, hk⟩ := evInt r hi
    split at h
    · rename_i hkd
      rw [u2] at hkd
      have := kdOf_str hkd; subst this
      split at h
      · rename_i hn
        cases hb : s[n.toNat]? with
        | none => simp [hb] at h
        | some b =>
          simp only [hb, Option.map_some, Option.some.injEq] at h
          subst h
          exact ⟨_, by simp [execOp, ho, Instr.index, hk, (Rep.of_lit (r.ev hx)).1, asIntOf, u1, hn, hb], .lit rfl⟩
      · cases h
    · cases h
  · rename_i ti cs n ht hx hi
    obtain ⟨d, u1, u2⟩ := run_tyUnder (w := w) ht
    obtain ⟨k, hk⟩ := evInt r hi
    obtain ⟨vs, q1, q2, q3⟩ := RepL.of_agg (r.ev hx)
    split at h
    · rename_i len e hkd
      rw [u2] at hkd
      have := kdOf_arr hkd; subst this
      split at h
      · rename_i te hte
        split at h
        · rename_i hb
          obtain ⟨u, k1, k2⟩ := run_part (w := w) hte q2 q3 h
          exact ⟨u, by simp [execOp, ho, Instr.index, hk, q1, asIntOf, u1, run_sizeOf hte, hb.1, hb.2, k1], k2⟩
        · cases h
      · cases h
    · cases h
  · cases h

theorem evO_bound {x : Option Operand} {l : Option Int} (r : FRel g0 h0 w0 σ g w a) (h : (evO σ x).bind bound = some l) : (x = none ∧ l = none) ∨ ∃ y n k, x = some y ∧ l = some n ∧ a.eval y = .int k n := by
  cases x with
  | none => simp [evO, bound] at h; exact .inl ⟨rfl, h.symm⟩
  | some y =>
    simp only [evO] at h
    cases hy : ev σ y with
    | none => simp [hy] at h
    | some b =>
      simp only [hy, Option.map_some, Option.bind_some] at h
      unfold bound at h
      split at h
      · rename_i q; cases q
      · rename_i k n q
        cases q; cases h
        exact .inr ⟨y, n, k, rfl, rfl, (Rep.of_lit (r.ev hy)).1⟩
      · cases h

theorem run_bound {k : IntKind} {n : Int} {y : Nat} {c : BoundsCode} (h0 : 0 ≤ n) (h1 : n ≤ y) : (Instr.sliceBound (.int k n) y c).run P w = .ok n.toNat w := by
  simp [Instr.sliceBound, asIntOf, h0, h1]

theorem vec_sub {xs : List (List AV)} {b off s : Nat} (f : Nat → Nat → Value) (h1 : ∀ x ∈ xs, x.length = s)
    (h4 : ∀ (i : Nat) (x : List AV) (j : Nat) (a : AV), xs[i]? = some x → x[j]? = some a → g.mem b (off + i * s + j) = some (f i j))
    (h5 : ∀ (i : Nat) (x : List AV) (j : Nat) (a : AV), xs[i]? = some x → x[j]? = some a → Rep g (f i j) a) (l n cap' : Nat) (hn : l + n ≤ xs.length) {full : Bool} (hf : full = true → cap' = n) (hc : n ≤ cap') :
    Rep g (.slice (some ⟨b, off + l * s, none⟩) n cap') (.vec ((xs.drop l).take n) full) := by
  have hlen : ((xs.drop l).take n).length = n := by simp; omega
  have hget : ∀ i x, ((xs.drop l).take n)[i]? = some x → xs[l + i]? = some x := fun i x e => by
    rw [List.getElem?_take] at e
    split at e
    · rwa [List.getElem?_drop] at e
    · cases e
  have := Rep.vec (g := g) (b := b) (off := off + l * s) (cap := cap') (s := s) (xs := (xs.drop l).take n) (full := full) (fun i j => f (l + i) j)
    (fun x hx => h1 x (List.mem_of_mem_drop (List.mem_of_mem_take hx))) (fun q => by rw [hf q, hlen]) (by rw [hlen]; exact hc)
    (fun i x j a e1 e2 => by
      have := h4 _ _ _ _ (hget i x e1) e2
      rw [← this]; congr 1; rw [Nat.add_mul]; omega) (fun i x j a e1 e2 => h5 _ _ _ _ (hget i x e1) e2)
  rwa [hlen] at this

theorem gives_slice {t : TypeId} {x : Operand} {lo hi mx : Option Operand} (ho : o.op = .slice t x lo hi mx) (r : FRel g0 h0 w0 σ g w a) (h : pureOp P σ (.slice t x lo hi mx) = some v) : Gives P o a w g v := by
  simp only [pureOp] at h
  split at h
  · rename_i ti xs full l hh m ht hx hl hhi hm
    obtain ⟨d, u1, u2⟩ := run_tyUnder (w := w) ht
    split at h
    · rename_i e hkd
      rw [u2] at hkd
      have := kdOf_sl hkd; subst this
      split at h
      · rename_i te hte
        simp only [sliceV] at h
        split at h
        · rename_i hb
          cases h
          obtain ⟨b0, b1, b2, b3, b4, b5⟩ := hb
          have hv := r.ev hx
          generalize hu : a.eval x = u at hv
          -- the three bounds as the run reckons them
          have hrun : ∀ cap, xs.length ≤ cap → (Instr.sliceBounds true xs.length cap (lo.map a.eval) (hi.map a.eval) (mx.map a.eval)).run P w = .ok ((l.getD 0).toNat, (hh.getD xs.length).toNat, (m.map Int.toNat).getD cap) w := by
            intro cap hcap
            rcases evO_bound r hl with ⟨rfl, rfl⟩ | ⟨y1, n1, k1, rfl, rfl, e1⟩ <;> rcases evO_bound r hhi with ⟨rfl, rfl⟩ | ⟨y2, n2, k2, rfl, rfl, e2⟩ <;> rcases evO_bound r hm with ⟨rfl, rfl⟩ | ⟨y3, n3, k3, rfl, rfl, e3⟩ <;>
              simp only [Option.getD_none, Option.getD_some, Option.isSome_none, Option.isSome_some, Bool.false_eq_true, implies_true, forall_const] at b0 b1 b2 b3 b4 <;>
              first
                | (simp only [Instr.sliceBounds, Option.map_none, Option.map_some, Sem.run_bind, Sem.run_pure, Result.andThen_ok, *]
                   repeat (rw [run_bound (by omega) (by omega)]; simp only [Result.andThen_ok])
                   simp; done)
                | (simp only [Instr.sliceBounds, Option.map_none, Option.map_some, Sem.run_bind, Sem.run_pure, Result.andThen_ok, *]
                   simp; done)
          cases hv with
          | vecN =>
            have hr := hrun 0 (by simp)
            simp only [List.length_nil] at b0 b1 b2 b3 hr
            have z1 : (l.getD 0).toNat = 0 := by simp at b1 b2 b3; omega
            have z2 : (hh.getD (0 : Nat)).toNat = 0 := by simp at b1 b2 b3 ⊢; omega
            have z3 : (m.map Int.toNat).getD 0 = 0 := by
              cases m with
              | none => rfl
              | some m => simp at b2 b3 ⊢; omega
            refine ⟨.slice none 0 0, ?_, ?_⟩
            · simp only [execOp, ho, Sem.run_bind, Instr.sliceAt, u1, hu, Result.andThen_ok, Instr.slice, hr, run_sizeOf hte, z1, z3]
              simp at z2 ⊢; exact z2
            · simp only [List.drop_nil, List.take_nil]
              exact .vecN
          | @vecE ad cap _ hf =>
            have hr := hrun cap (Nat.zero_le _)
            simp only [List.length_nil] at b0 b1 b2 b3 hr
            have z1 : (l.getD 0).toNat = 0 := by simp at b1 b2 b3; omega
            have z2 : (hh.getD (0 : Nat)).toNat = 0 := by simp at b1 b2 b3 ⊢; omega
            refine ⟨_, by simp only [execOp, ho, Sem.run_bind, Instr.sliceAt, u1, hu, Result.andThen_ok, Instr.slice, hr, run_sizeOf hte, Sem.run_pure]; rfl, ?_⟩
            simp only [List.drop_nil, List.take_nil]
            have e0 : (hh.getD (0 : Nat)).toNat - (l.getD 0).toNat = 0 := by omega
            rw [e0]
            have hE : ∀ ad' c', (fullOf m (hh.getD (([] : List (List AV)).length : Nat)) full ([] : List (List AV)).length = true → c' = 0) → Rep g (.slice (some ad') 0 c') (.vec [] (fullOf m (hh.getD (([] : List (List AV)).length : Nat)) full ([] : List (List AV)).length)) := fun ad' c' h => .vecE h
            split
            all_goals
              refine hE _ _ (fun q => ?_)
              rw [z1]
              cases m with
              | none =>
                simp only [fullOf, Bool.and_eq_true] at q
                have := hf q.1
                simp [this]
              | some m => simp only [fullOf, decide_eq_true_eq] at q; simp at b2 b3 ⊢; omega
          | @vec b off cap s _ _ f h1 h2 h3 h4 h5 =>
            have hr := hrun cap h3
            have e1 : (hh.getD xs.length).toNat ≤ xs.length := by omega
            have e2 : (l.getD 0).toNat ≤ (hh.getD xs.length).toNat := by omega
            have e3 : (hh.getD xs.length).toNat ≤ (m.map Int.toNat).getD cap := by
              cases m with
              | none => simp; omega
              | some m => simp at b2 b3 ⊢; omega
            by_cases hz : (hh.getD xs.length).toNat - (l.getD 0).toNat = 0
            · -- nothing is left: of the address nothing is said
              refine ⟨_, by simp only [execOp, ho, Sem.run_bind, Instr.sliceAt, u1, hu, Result.andThen_ok, Instr.slice, hr, run_sizeOf hte, Sem.run_pure]; rfl, ?_⟩
              rw [hz, List.take_zero]
              have hnil : ∀ (ad : Addr), ad.spot = none → ∀ (c' : Nat) (fl : Bool), (fl = true → c' = 0) → Rep g (.slice (some ad) 0 c') (.vec [] fl) := fun ad hs c' fl hf => by
                obtain ⟨b', o', sp⟩ := ad
                simp only at hs; subst hs
                exact .vec (s := 0) (xs := []) (fun _ _ => undef) (by simp) (by simpa using hf) (by simp) (by simp) (by simp)
              have hfull : fullOf m (hh.getD xs.length) full xs.length = true → (m.map Int.toNat).getD cap - (l.getD 0).toNat = 0 := by
                cases m with
                | none =>
                  simp only [fullOf, Bool.and_eq_true, decide_eq_true_eq, Option.map_none, Option.getD_none]
                  rintro ⟨q1, q2⟩
                  have := h2 q1
                  omega
                | some m =>
                  simp only [fullOf, decide_eq_true_eq, Option.map_some, Option.getD_some]
                  intro q; subst q; omega
              split
              · exact hnil _ rfl _ _ hfull
              · exact hnil _ (by simp only [Addr.add_eq]) _ _ hfull
            · have hne : ¬ (m.map Int.toNat).getD cap = (l.getD 0).toNat := by omega
              have hex : ∃ x0, xs[(l.getD 0).toNat]? = some x0 := ⟨xs[(l.getD 0).toNat]'(by omega), List.getElem?_eq_getElem (by omega)⟩
              have hsz : te.size = s := by
                obtain ⟨x0, hx0⟩ := hex
                rw [← b5 x0 (List.mem_of_getElem? hx0)]
                exact h1 x0 (List.mem_of_getElem? hx0)
              refine ⟨_, by simp only [execOp, ho, Sem.run_bind, Instr.sliceAt, u1, hu, Result.andThen_ok, Instr.slice, hr, run_sizeOf hte, Sem.run_pure, if_neg hne, Option.map_some, Addr.add_eq, hsz]; rfl, ?_⟩
              refine vec_sub f h1 h4 h5 _ _ _ (by omega) (fun q => ?_) (by omega)
              cases m with
              | none =>
                simp only [fullOf, Bool.and_eq_true, decide_eq_true_eq] at q
                have := h2 q.1
                simp only [Option.map_none, Option.getD_none]
                omega
              | some m =>
                simp only [fullOf, decide_eq_true_eq] at q
                subst q
                simp
        · cases h
      · cases h
    · cases h
  · rename_i ti s l hh ht hx hl hhi hm
    obtain ⟨d, u1, u2⟩ := run_tyUnder (w := w) ht
    split at h
    · rename_i hkd
      rw [u2] at hkd
      have := kdOf_str hkd; subst this
      split at h
      · rename_i hb
        cases h
        obtain ⟨b0, b1, b2⟩ := hb
        have hmx : mx = none := by
          rcases evO_bound r hm with ⟨q, _⟩ | ⟨_, _, _, _, q, _⟩
          · exact q
          · cases q
        subst hmx
        have hrun : (Instr.sliceBounds false s.size s.size (lo.map a.eval) (hi.map a.eval) none).run P w = .ok ((l.getD 0).toNat, (hh.getD s.size).toNat, s.size) w := by
          rcases evO_bound r hl with ⟨rfl, rfl⟩ | ⟨y1, n1, k1, rfl, rfl, e1⟩ <;> rcases evO_bound r hhi with ⟨rfl, rfl⟩ | ⟨y2, n2, k2, rfl, rfl, e2⟩ <;>
            simp only [Option.getD_none, Option.getD_some] at b0 b1 b2 <;>
            first
              | (simp only [Instr.sliceBounds, Option.map_none, Option.map_some, Sem.run_bind, Sem.run_pure, Result.andThen_ok, *]
                 repeat (rw [run_bound (by omega) (by omega)]; simp only [Result.andThen_ok])
                 simp; done)
              | (simp only [Instr.sliceBounds, Option.map_none, Option.map_some, Sem.run_bind, Sem.run_pure, Result.andThen_ok, *]
                 simp; done)
        exact ⟨_, by simp [execOp, ho, Instr.sliceAt, u1, (Rep.of_lit (r.ev hx)).1, Instr.slice, hrun], .lit rfl⟩
      · cases h
    · cases h
  · cases h

theorem evL_cons {x : Operand} {l : List Operand} {as : List AV} (h : evL σ (x :: l) = some as) : ∃ b bs, as = b :: bs ∧ ev σ x = some b ∧ evL σ l = some bs := by
  unfold evL at h
  split at h
  · rename_i b bs h1 h2; cases h; exact ⟨b, bs, rfl, h1, h2⟩
  · cases h
theorem evL_nil {as : List AV} (h : evL σ [] = some as) : as = [] := by cases h; rfl
theorem evL_two {xs : Array Operand} {b c : AV} (h : evL σ xs.toList = some [b, c]) : ∃ x y, xs = #[x, y] ∧ ev σ x = some b ∧ ev σ y = some c := by
  match hx : xs.toList, h with
  | [], h => simp [evL] at h
  | [x], h =>
    obtain ⟨_, _, e1, _, e3⟩ := evL_cons h
    have := evL_nil e3; subst this; cases e1
  | [x, y], h =>
    obtain ⟨b1, bs, e1, e2, e3⟩ := evL_cons h
    obtain ⟨c1, cs, f1, f2, f3⟩ := evL_cons e3
    have := evL_nil f3; subst this
    subst f1; cases e1
    exact ⟨x, y, by rw [← Array.toArray_toList (xs := xs), hx], e2, f2⟩
  | x :: y :: z :: l, h =>
    obtain ⟨b1, bs, e1, e2, e3⟩ := evL_cons h
    obtain ⟨c1, cs, f1, f2, f3⟩ := evL_cons e3
    obtain ⟨d1, ds, g1, g2, g3⟩ := evL_cons f3
    subst g1; subst f1; cases e1

theorem gives_len {c : Call} (hc : c.callee = .builtin .len) (ho : o.op = .call c) (r : FRel g0 h0 w0 σ g w a) (h : pureOp P σ (.call c) = some v) : Gives P o a w g v := by
  simp only [pureOp, hc] at h
  split at h
  · rename_i t ts b bs hat hev
    have hargs : ∃ x l, c.args.toList = x :: l ∧ ev σ x = some b := by
      match hx : c.args.toList, hev with
      | [], h => simp [evL] at h
      | x :: l, h =>
        obtain ⟨b1, bs1, e1, e2, e3⟩ := evL_cons h
        cases e1
        exact ⟨x, l, rfl, e2⟩
    obtain ⟨x, l, hx, hb⟩ := hargs
    have ha0 : c.argTypes[0]? = some t := by rw [← Array.getElem?_toList, hat]; rfl
    have hx0 : (c.args.map a.eval)[0]? = some (a.eval x) := by rw [Array.getElem?_map, ← Array.getElem?_toList, hx]; rfl
    have hrun : ∀ u, (Builtin.len_ c.argTypes o.type (c.args.map a.eval)).run P w = .ok u w → (execOp a.eval o).run P w = .ok (.value u) w := fun u hu => by
      simp [execOp, ho, resolve, hc, invoke, builtin, hu]
    have hv := r.ev hb
    split at h
    · rename_i ti xs full ht
      obtain ⟨d, u1, u2⟩ := run_tyUnder (w := w) ht
      split at h
      · rename_i e hkd
        cases h
        rw [u2] at hkd
        have := kdOf_sl hkd; subst this
        generalize hu : a.eval x = u at hv hx0
        cases hv with
        | vecN => exact ⟨_, hrun _ (by simp [Builtin.len_, ha0, hx0, u1, goInt]), .lit rfl⟩
        | vecE _ => exact ⟨_, hrun _ (by simp [Builtin.len_, ha0, hx0, u1, goInt]), .lit rfl⟩
        | vec f h1 h2 h3 h4 h5 => exact ⟨_, hrun _ (by simp [Builtin.len_, ha0, hx0, u1, goInt]), .lit rfl⟩
      · cases h
    · rename_i ti tk n ht
      obtain ⟨d, u1, u2⟩ := run_tyUnder (w := w) ht
      split at h
      · rename_i e hkd
        cases h
        rw [u2] at hkd
        have := kdOf_sl hkd; subst this
        generalize hu : a.eval x = u at hv hx0
        cases hv with
        | own h1 h2 => exact ⟨_, hrun _ (by simp [Builtin.len_, ha0, hx0, u1, goInt]), .lit rfl⟩
      · cases h
    · rename_i ti s ht
      obtain ⟨d, u1, u2⟩ := run_tyUnder (w := w) ht
      split at h
      · rename_i hkd
        cases h
        rw [u2] at hkd
        have := kdOf_str hkd; subst this
        have hs := (Rep.of_lit hv).1
        rw [hs] at hx0
        exact ⟨_, hrun _ (by simp [Builtin.len_, ha0, hx0, u1, goInt]), .lit rfl⟩
      · cases h
    · cases h
  · cases h

theorem gives_min {c : Call} (hc : c.callee = .builtin .min) (ho : o.op = .call c) (r : FRel g0 h0 w0 σ g w a) (h : pureOp P σ (.call c) = some v) : Gives P o a w g v := by
  simp only [pureOp, hc] at h
  split at h
  · rename_i k p k' q hev
    cases h
    obtain ⟨x, y, hx, e1, e2⟩ := evL_two hev
    have h1 := (Rep.of_lit (r.ev e1)).1
    have h2 := (Rep.of_lit (r.ev e2)).1
    exact ⟨_, by simp [execOp, ho, resolve, hc, hx, invoke, builtin, Builtin.min_, Builtin.min2, h1, h2], .lit rfl⟩
  · cases h

theorem gives_max {c : Call} (hc : c.callee = .builtin .max) (ho : o.op = .call c) (r : FRel g0 h0 w0 σ g w a) (h : pureOp P σ (.call c) = some v) : Gives P o a w g v := by
  simp only [pureOp, hc] at h
  split at h
  · rename_i k p k' q hev
    cases h
    obtain ⟨x, y, hx, e1, e2⟩ := evL_two hev
    have h1 := (Rep.of_lit (r.ev e1)).1
    have h2 := (Rep.of_lit (r.ev e2)).1
    exact ⟨_, by simp [execOp, ho, resolve, hc, hx, invoke, builtin, Builtin.max_, Builtin.max2, h1, h2], .lit rfl⟩
  · cases h

theorem gives_move {x : Operand} (ho : o.op = .move x ∨ o.op = .assign x) (r : FRel g0 h0 w0 σ g w a) (h : ev σ x = some v) : Gives P o a w g v := by
  rcases ho with ho | ho <;> exact ⟨_, by simp [execOp, ho], r.ev h⟩

theorem pure_sound (r : FRel g0 h0 w0 σ g w a) (h : pureOp P σ o.op = some v) : Gives P o a w g v := by
  cases ho : o.op with
  | move x => rw [ho] at h; exact gives_move (.inl ho) r h
  | assign x => rw [ho] at h; exact gives_move (.inr ho) r h
  | build t p => rw [ho] at h; exact gives_build ho r h
  | load t x => rw [ho] at h; exact gives_load ho r h
  | nilCheck x => rw [ho] at h; exact gives_nilCheck ho r h
  | binOp op t x y t' => rw [ho] at h; exact gives_binOp ho r h
  | unOp op t x => rw [ho] at h; exact gives_unOp ho r h
  | convert s d x => rw [ho] at h; exact gives_convert ho r h
  | makeFunc f x y => rw [ho] at h; exact gives_makeFunc ho r h
  | fieldAddr s x f => rw [ho] at h; exact gives_fieldAddr ho r h
  | field s x f => rw [ho] at h; exact gives_field ho r h
  | indexAddr t x i => rw [ho] at h; exact gives_indexAddr ho r h
  | index t x i => rw [ho] at h; exact gives_index ho r h
  | slice t x lo hi mx => rw [ho] at h; exact gives_slice ho r h
  | extract x i => rw [ho] at h; exact gives_extract ho r h
  | call c =>
    rw [ho] at h
    cases hc : c.callee with
    | builtin b =>
      cases b with
      | len => exact gives_len hc ho r h
      | min => exact gives_min hc ho r h
      | max => exact gives_max hc ho r h
      | _ => simp [pureOp, hc] at h
    | _ => simp [pureOp, hc] at h
  | _ => rw [ho] at h; simp [pureOp] at h
end
end Go.Ab
