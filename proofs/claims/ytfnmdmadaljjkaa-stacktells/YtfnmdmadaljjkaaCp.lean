/- Names that were given since a loop began, or since a function was entered, may be given anew: a loop's round comes back to the names that it had. Conditions: those that each theorem names. -/
import Derived.Test.YtfnmdmadaljjkaaSub
import Derived.Test.YtfnmdmadaljjkaaScope
set_option linter.unusedVariables false
set_option linter.unusedSimpArgs false
namespace Go.Ab

theorem allc {α : Type} {p : α → Prop} {a : α} {l : List α} (h : p a) (k : ∀ x ∈ l, p x) : ∀ x ∈ a :: l, p x := List.forall_mem_cons.2 ⟨h, k⟩
theorem alln {α : Type} {p : α → Prop} : ∀ x ∈ ([] : List α), p x := fun x h => by cases h

/-- The state σ' is σ told otherwise, where of names below N alone anybody else may know. -/
def St.cp (N : Nat) (σ σ' : St) : Prop := ∀ g0 h0 w0 g w a, g0.nx ≤ N → FRel g0 h0 w0 σ g w a → ∃ g', FRel g0 h0 w0 σ' g' w a
theorem St.wk.cp {N : Nat} {σ σ' : St} (h : St.wk σ σ') : St.cp N σ σ' := fun g0 h0 w0 g w a _ r => h g0 h0 w0 g w a r
theorem St.cp.mono {N M : Nat} {σ σ' : St} (h : St.cp N σ σ') (k : M ≤ N) : St.cp M σ σ' := fun g0 h0 w0 g w a q r => h g0 h0 w0 g w a (Nat.le_trans q k) r

/-- Which name a new one stands for: those below N for themselves, the others by the list. -/
def cpn (N : Nat) (l : List Nat) (i : Nat) : Nat := if i < N then i else l.getD (i - N) 0

theorem St.cp_of {σ σ' : St} (N : Nat) (l : List Nat) (hN : N ≤ σ.hp.nx) (hnx : σ'.hp.nx = N + l.length) (hnt : σ'.nt = σ.nt) (hnd : l.Nodup) (hl : ∀ x ∈ l, N ≤ x ∧ x < σ.hp.nx)
    (hs : ∀ p ∈ σ'.slots, ∃ b, lk σ.slots p.1 = some b ∧ Rn (cpn N l) σ'.hp.nx p.2 b)
    (hb : ∀ p ∈ σ'.hp.boxes, p.1 < σ'.hp.nx ∧ ∃ cs, lk σ.hp.boxes (cpn N l p.1) = some cs ∧ RnL (cpn N l) σ'.hp.nx p.2 cs)
    (ht : ∀ p ∈ σ'.hp.toks, p.1 < σ'.hp.nx ∧ ∃ k, lk σ.hp.toks (cpn N l p.1) = some k ∧ k.fz = p.2.fz ∧ k.s = p.2.s ∧ RnR (cpn N l) σ'.hp.nx p.2.xs k.xs) : St.cp N σ σ' := by
  intro g0 h0 w0 g w a h0N r
  have hget : ∀ i, N ≤ i → i < N + l.length → cpn N l i ∈ l := fun i h1 h2 => by
    have : ¬ i < N := by omega
    have h3 : i - N < l.length := by omega
    simp only [cpn, if_neg this, List.getD_eq_getElem?_getD, List.getElem?_eq_getElem h3, Option.getD_some]
    exact List.getElem_mem _
  have hlo : ∀ i, i < N → cpn N l i = i := fun i h => by simp [cpn, h]
  have hinj : ∀ i j, i < σ'.hp.nx → j < σ'.hp.nx → cpn N l i = cpn N l j → i = j := by
    intro i j hi hj e
    rw [hnx] at hi hj
    rcases Nat.lt_or_ge i N with h1 | h1 <;> rcases Nat.lt_or_ge j N with h2 | h2
    · rw [hlo i h1, hlo j h2] at e; exact e
    · have := (hl _ (hget j h2 hj)).1; rw [← e, hlo i h1] at this; omega
    · have := (hl _ (hget i h1 hi)).1; rw [e, hlo j h2] at this; omega
    · have n1 : ¬ i < N := by omega
      have n2 : ¬ j < N := by omega
      have b1 : i - N < l.length := by omega
      have b2 : j - N < l.length := by omega
      simp only [cpn, if_neg n1, if_neg n2, List.getD_eq_getElem?_getD, List.getElem?_eq_getElem b1, List.getElem?_eq_getElem b2, Option.getD_some] at e
      have := (List.getElem_inj hnd).1 e
      omega
  have hlt : ∀ i, i < σ'.hp.nx → cpn N l i < σ.hp.nx := by
    intro i hi
    rw [hnx] at hi
    rcases Nat.lt_or_ge i N with h1 | h1
    · rw [hlo i h1]; omega
    · exact (hl _ (hget i h1 hi)).2
  let g' : Gh := ⟨g.mem, fun i => if i < σ'.hp.nx then g.box (cpn N l i) else none, fun i => if i < σ'.hp.nx then g.tok (cpn N l i) else none, σ'.hp.nx, g.cch⟩
  have sm : Sm (cpn N l) σ'.hp.nx g g' := ⟨rfl, Nat.le_refl _, fun i hi => ⟨by rw [r.st.hp.nx]; exact hlt i hi, by simp [g', hi], by simp [g', hi]⟩, rfl⟩
  have hfr : ∀ i, σ'.hp.nx ≤ i → g'.box i = none ∧ g'.tok i = none := fun i hi => by
    have h1 : ¬ i < σ'.hp.nx := by omega
    exact ⟨if_neg h1, if_neg h1⟩
  obtain ⟨rel, lift⟩ := r.st.hp.dn sm rfl hfr hinj hb ht
  refine ⟨g', ⟨rel, ?_, ⟨r.st.keeps.os, r.st.keeps.tape, r.st.keeps.output, r.st.keeps.drawn, r.st.keeps.size, r.st.keeps.block⟩, fun b q => r.st.live b (lift b q), r.st.memo⟩, fun s v e => ?_, r.nt.trans hnt.symm, r.defers⟩
  · have e0 : ∀ id, id < g0.nx → id < N ∧ id < σ'.hp.nx := fun id hi => by omega
    refine ⟨?_, r.st.ext.mem, fun id hi => ?_, fun t h1 => ?_, r.st.ext.cch⟩
    · show g0.nx ≤ σ'.hp.nx; omega
    · obtain ⟨q1, q2⟩ := e0 id hi
      have := r.st.ext.box id hi
      simp only [g', q2, if_true, hlo id q1]; exact this
    · obtain ⟨q1, q2⟩ := e0 t h1
      have := r.st.ext.tok t h1
      simp only [g', q2, if_true, hlo t q1]; exact this
  · obtain ⟨b, e1, e2⟩ := hs _ (lk_mem e)
    obtain ⟨u, f1, f2⟩ := r.slots s b e1
    exact ⟨u, f1, e2.dn g g' sm _ f2⟩

section
variable {P : Program} {σ : St}
/-- A loop whose rounds begin with the same names. -/
theorem aw_loopC {c : Code} {Q : Exit → St → Prop} (N : Nat) (I : Nat → St → Prop) (hN : ∀ n σ, I n σ → σ.hp.nx = N) {σ' : St} (h : St.wk σ σ') (n : Nat) (hI : I n σ')
    (round : ∀ n σ, I n σ → awp P c (seqK (fun σ1 => ∃ σ2 m, St.cp N σ1 σ2 ∧ m < n ∧ I m σ2) Q) σ) : Aw P (.loop c) Q σ := by
  intro g0 h0 w0 g w a r
  refine wp_loop_ghost (fun n a w => ∃ σ g, I n σ ∧ FRel g0 h0 w0 σ g w a) n (let ⟨g', r'⟩ := h g0 h0 w0 g w a r; ⟨σ', g', hI, r'⟩) (fun n a w ⟨σ, g, k1, k2⟩ => ?_)
  have hg : g0.nx ≤ N := by
    have h1 : g0.nx ≤ g.nx := k2.st.ext.nx
    rw [k2.st.hp.nx, hN n σ k1] at h1; exact h1
  refine wp_mono (awp_sound c (round n σ k1) g0 h0 w0 g w a k2) fun e a' w' hh => ?_
  obtain ⟨σ1, g1, q1, q2⟩ := hh
  cases e with
  | normal =>
    obtain ⟨σ2, m, l1, l2, l3⟩ := q1
    obtain ⟨g2, q3⟩ := l1 g0 h0 w0 g1 w' a' hg q2
    exact ⟨m, l2, σ2, g2, l3, q3⟩
  | _ => exact ⟨σ1, g1, q1, q2⟩

/-- A loop that counts to n: its state at each place, with what is gathered. -/
theorem aw_for {c : Code} {Q : Exit → St → Prop} {A : Type} (n N : Nat) (S : Nat → A → St) (Inv : Nat → A → Prop) (hN : ∀ i a, (S i a).hp.nx = N) (a0 : A) (hw : St.wk σ (S 0 a0)) (h0 : Inv 0 a0)
    (round : ∀ i a, i < n → Inv i a → awp P c (seqK (fun σ1 => ∃ a', Inv (i + 1) a' ∧ St.cp N σ1 (S (i + 1) a')) Q) (S i a))
    (last : ∀ a, Inv n a → awp P c (seqK (fun _ => False) Q) (S n a)) : Aw P (.loop c) Q σ := by
  intro g0 h0' w0 g w a r
  refine wp_loop_ghost (fun m a w => ∃ i x g, i ≤ n ∧ m = n - i ∧ Inv i x ∧ FRel g0 h0' w0 (S i x) g w a) n (let ⟨g', r'⟩ := hw g0 h0' w0 g w a r; ⟨0, a0, g', Nat.zero_le _, rfl, h0, r'⟩) (fun m a w ⟨i, x, g, hi, hm, hI, k2⟩ => ?_)
  have hg : g0.nx ≤ N := by
    have h1 : g0.nx ≤ g.nx := k2.st.ext.nx
    rw [k2.st.hp.nx, hN] at h1; exact h1
  rcases Nat.lt_or_ge i n with hlt | hge
  · refine wp_mono (awp_sound c (round i x hlt hI) g0 h0' w0 g w a k2) fun e a' w' hh => ?_
    obtain ⟨σ1, g1, q1, q2⟩ := hh
    cases e with
    | normal =>
      obtain ⟨x', l1, l2⟩ := q1
      obtain ⟨g2, q3⟩ := l2 g0 h0' w0 g1 w' a' hg q2
      exact ⟨n - (i + 1), by omega, i + 1, x', g2, hlt, rfl, l1, q3⟩
    | _ => exact ⟨σ1, g1, q1, q2⟩
  · have : i = n := by omega
    subst this
    refine wp_mono (awp_sound c (last x hI) g0 h0' w0 g w a k2) fun e a' w' hh => ?_
    obtain ⟨σ1, g1, q1, q2⟩ := hh
    cases e with
    | normal => exact q1.elim
    | _ => exact ⟨σ1, g1, q1, q2⟩

/-- A loop that looks for one of which p holds. -/
theorem aw_any {c : Code} {Q : Exit → St → Prop} {T : Type} (l : List T) (p : T → Bool) (N : Nat) (S : Nat → St) (hN : ∀ i, (S i).hp.nx = N) (hw : St.wk σ (S 0))
    (round : ∀ i x, l[i]? = some x → x ∈ l → i < l.length → awp P c (seqK (fun σ1 => p x = false ∧ St.cp N σ1 (S (i + 1))) Q) (S i))
    (last : l.any p = false → awp P c (seqK (fun _ => False) Q) (S l.length)) : Aw P (.loop c) Q σ := by
  intro g0 h0' w0 g w a r
  refine wp_loop_ghost (fun m a w => ∃ i g, i ≤ l.length ∧ m = l.length - i ∧ (∀ j x, j < i → l[j]? = some x → p x = false) ∧ FRel g0 h0' w0 (S i) g w a) l.length
    (let ⟨g', r'⟩ := hw g0 h0' w0 g w a r; ⟨0, g', Nat.zero_le _, rfl, fun j x hj => by omega, r'⟩) (fun m a w ⟨i, g, hi, hm, hI, k2⟩ => ?_)
  have hg : g0.nx ≤ N := by
    have h1 : g0.nx ≤ g.nx := k2.st.ext.nx
    rw [k2.st.hp.nx, hN] at h1; exact h1
  rcases Nat.lt_or_ge i l.length with hlt | hge
  · have hx := List.getElem?_eq_getElem hlt
    refine wp_mono (awp_sound c (round i _ hx (List.getElem_mem hlt) hlt) g0 h0' w0 g w a k2) fun e a' w' hh => ?_
    obtain ⟨σ1, g1, q1, q2⟩ := hh
    cases e with
    | normal =>
      obtain ⟨l1, l2⟩ := q1
      obtain ⟨g2, q3⟩ := l2 g0 h0' w0 g1 w' a' hg q2
      refine ⟨l.length - (i + 1), by omega, i + 1, g2, hlt, rfl, fun j y hj hy => ?_, q3⟩
      rcases Nat.lt_succ_iff_lt_or_eq.1 hj with hj | rfl
      · exact hI j y hj hy
      · rw [hx] at hy; cases hy; exact l1
    | _ => exact ⟨σ1, g1, q1, q2⟩
  · have hil : i = l.length := by omega
    subst hil
    have hno : l.any p = false := by
      rw [List.any_eq_false]
      intro x hx
      obtain ⟨j, hj⟩ := List.getElem?_of_mem hx
      have := hI j x (List.getElem?_eq_some_iff.1 hj).1 hj
      simp [this]
    refine wp_mono (awp_sound c (last hno) g0 h0' w0 g w a k2) fun e a' w' hh => ?_
    obtain ⟨σ1, g1, q1, q2⟩ := hh
    cases e with
    | normal => exact q1.elim
    | _ => exact ⟨σ1, g1, q1, q2⟩

/-- What holds where a label is jumped to, its names those below N and new ones. -/
def jumpC (l N : Nat) (J : St → Prop) (Q : Exit → St → Prop) : Exit → St → Prop
  | .goto i, σ => i = l ∧ ∃ σ', St.cp N σ σ' ∧ J σ'
  | e, σ => Q e σ
theorem Xcb {l N : Nat} {J : St → Prop} {Q : Exit → St → Prop} : jumpC l N J Q .normal σ = Q .normal σ := rfl
theorem Xcc {l N : Nat} {J : St → Prop} {Q : Exit → St → Prop} : jumpC l N J Q .ret σ = Q .ret σ := rfl
theorem Xcd {l N i : Nat} {J : St → Prop} {Q : Exit → St → Prop} : jumpC l N J Q (.exit i) σ = Q (.exit i) σ := rfl
theorem Xce {l N : Nat} {J : St → Prop} {Q : Exit → St → Prop} : jumpC l N J Q (.goto l) σ = ∃ σ', St.cp N σ σ' ∧ J σ' := by simp [jumpC]

theorem post_jumpC {g0 : Gh} {h0 : Hp} {w0 : World} {l N : Nat} {J : St → Prop} {Q : Exit → St → Prop} {J' : Act → World → Prop} (hg : g0.nx ≤ N) (hJ : ∀ a w, (∃ σ g, J σ ∧ FRel g0 h0 w0 σ g w a) → J' a w) (e : Exit) (a : Act) (w : World)
    (h : Post g0 h0 w0 (jumpC l N J Q) e a w) : Exit.jump l J' (Post g0 h0 w0 Q) e a w := by
  obtain ⟨σ1, g1, q1, q2⟩ := h
  cases e with
  | goto i =>
    obtain ⟨rfl, σ2, l1, l2⟩ := q1
    obtain ⟨g2, q3⟩ := l1 g0 h0 w0 g1 w a hg q2
    exact ⟨rfl, hJ _ _ ⟨σ2, g2, l2, q3⟩⟩
  | _ => exact ⟨σ1, g1, q1, q2⟩

/-- A scope that comes to a label; each pass from there comes to it again, with the same names, or leaves. -/
theorem aw_scope_cutC {c pre rest : Code} {Q : Exit → St → Prop} (l N : Nat) (hf : findLabel c l = some (.seq .skip rest)) (hc : cutAt l c = some (pre, rest)) (h0N : σ.hp.nx ≤ N) (J : Nat → St → Prop) (hN : ∀ n σ, J n σ → σ.hp.nx = N) (n0 : Nat)
    (first : awp P pre (cutK (fun σ => ∃ σ', St.wk σ σ' ∧ J n0 σ') (jumpC l N (fun σ => ∃ m, m < n0 ∧ J m σ) Q)) σ) (pass : ∀ n σ, J n σ → awp P rest (jumpC l N (fun σ => ∃ m, m < n ∧ J m σ) Q) σ) : Aw P (.scope c) Q σ := by
  intro g0 h0 w0 g w a r
  have hg : g0.nx ≤ N := by
    have h1 : g0.nx ≤ g.nx := r.st.ext.nx
    rw [r.st.hp.nx] at h1; omega
  let I : Nat → Act → World → Prop := fun n a w => ∃ σ g, J n σ ∧ FRel g0 h0 w0 σ g w a
  have start : Aw P c (jumpC l N (fun σ => ∃ m, m < n0 ∧ J m σ) Q) σ := by
    refine cut_sound (K := fun σ => ∃ σ', St.wk σ σ' ∧ J n0 σ') (fun σ1 ⟨σ2, h1, h2⟩ => aw_wk h1 (awp_sound rest (pass n0 σ2 h2))) hc first
  refine wp_scope_jumps l (fun a w => ∃ n, I n a w) (fun a w => leastOf (fun n => I n a w)) hf ?_ ?_
  · exact wp_mono (start g0 h0 w0 g w a r) (post_jumpC hg (fun a w ⟨σ, g, ⟨n, _, h1⟩, h2⟩ => ⟨n, σ, g, h1, h2⟩))
  · intro a w hI
    obtain ⟨σ1, g1, k1, k2⟩ := (leastOf_spec hI).1
    refine wp_mono (awp_sound (.seq .skip rest) (pass _ σ1 k1) g0 h0 w0 g1 w a k2) (post_jumpC hg (fun a' w' ⟨σ, g, ⟨m, h0, h1⟩, h2⟩ => ?_))
    have hI' : I m a' w' := ⟨σ, g, h1, h2⟩
    exact ⟨⟨m, hI'⟩, Nat.lt_of_le_of_lt ((leastOf_spec ⟨m, hI'⟩).2 m hI') h0⟩

/-- A body whose last state's new names may be given anew. -/
def retC (P : Program) (N : Nat) (rs : List ResultVar) (R : AV → Hp → Prop) : Exit → St → Prop
  | .normal, σ => ∃ σ', St.cp N σ σ' ∧ resK (resOf P σ' rs) R σ'.hp
  | .ret, σ => ∃ σ', St.cp N σ σ' ∧ resK (resOf P σ' rs) R σ'.hp
  | _, _ => False
theorem Xbz {N : Nat} {rs : List ResultVar} {R : AV → Hp → Prop} : retC P N rs R .normal σ = ∃ σ', St.cp N σ σ' ∧ resK (resOf P σ' rs) R σ'.hp := rfl
theorem Xca {N : Nat} {rs : List ResultVar} {R : AV → Hp → Prop} : retC P N rs R .ret σ = ∃ σ', St.cp N σ σ' ∧ resK (resOf P σ' rs) R σ'.hp := rfl

theorem SCall_introC {f : FuncId} {fn : Func} {c : Code} {args : List AV} {h : Hp} {Q : AV → Hp → Prop} (hf : P.funcs[f]? = some fn) (hb : fn.body = some c) {n : Nat} (hnt : fn.ntmps = n) {rs : List ResultVar} (hrs : fn.results.toList = rs) (hn : args.length ≤ n) {N : Nat} (hN : h.nx = N)
    (hw : awp P c (retC P N rs Q) (entry args h n)) : SCall P f args h Q := by
  subst hnt; subst hrs; subst hN
  intro g w vals hr hl
  have hs : vals.size = args.length := by simpa using hl.1
  refine calls_of_wp hf hb (wp_mono (awp_sound c hw g h w g w _ (FRel.entry hr hl fn.ntmps hn)) fun e a' w' hh => ?_)
  obtain ⟨σ, g', q1, q2⟩ := hh
  have fin : (∃ σ', St.cp h.nx σ σ' ∧ resK (resOf P σ' fn.results.toList) Q σ'.hp) → a'.defers = [] ∧ ∃ v, (results fn a'.tmps).run P w' = .ok v w' ∧ ∃ v' r h' g', Ending.returned v = .returned v' ∧ Rep g' v' r ∧ Step1 g h w g' h' w' ∧ Q r h' := fun ⟨σ', hw', hb⟩ => by
    obtain ⟨g2, q3⟩ := hw' g h w g' w' a' (by rw [hr.nx]; exact Nat.le_refl _) q2
    obtain ⟨vs, k1, k2⟩ := resK_elim hb
    obtain ⟨u, e1, e2⟩ := results_sound q3 k1
    exact ⟨q3.defers, u, e1, u, _, _, g2, rfl, e2, q3.st, k2⟩
  cases e with
  | normal => exact fin q1
  | ret => exact fin q1
  | exit id => exact q1.elim
  | goto id => exact q1.elim
  | panic v => exact q1.elim
  | outgrown => exact q1.elim

/-- The names that were new are let go. -/
theorem St.cp_drop {σ σ' : St} (hnx : σ'.hp.nx ≤ σ.hp.nx) (hnt : σ'.nt = σ.nt) (hs : ∀ p ∈ σ'.slots, lk σ.slots p.1 = some p.2 ∧ Rn id σ'.hp.nx p.2 p.2)
    (hb : ∀ p ∈ σ'.hp.boxes, p.1 < σ'.hp.nx ∧ lk σ.hp.boxes p.1 = some p.2 ∧ RnL id σ'.hp.nx p.2 p.2)
    (ht : ∀ p ∈ σ'.hp.toks, p.1 < σ'.hp.nx ∧ lk σ.hp.toks p.1 = some p.2 ∧ RnR id σ'.hp.nx p.2.xs p.2.xs) : St.cp σ'.hp.nx σ σ' := by
  have e : ∀ n i, i < n → cpn n [] i = i := fun n i h => by simp [cpn, h]
  have sm : ∀ g gs, Sm (cpn σ'.hp.nx []) σ'.hp.nx g gs → Sm id σ'.hp.nx g gs := fun g gs s => ⟨s.mem, s.nx, fun i h => by have := s.nm i h; rwa [e _ i h] at this, s.cch⟩
  refine St.cp_of σ'.hp.nx [] hnx (by simp) hnt List.nodup_nil (fun x h => by cases h) (fun p hp => ?_) (fun p hp => ?_) (fun p hp => ?_)
  · obtain ⟨h1, h2⟩ := hs p hp
    exact ⟨_, h1, fun g gs s => h2.dn g gs (sm g gs s), fun g gs s => h2.un g gs (sm g gs s)⟩
  · obtain ⟨h0, h1, h2⟩ := hb p hp
    exact ⟨h0, _, by rw [e _ _ h0]; exact h1, fun g gs s => h2.dn g gs (sm g gs s), fun g gs s => h2.un g gs (sm g gs s)⟩
  · obtain ⟨h0, h1, h2⟩ := ht p hp
    exact ⟨h0, _, by rw [e _ _ h0]; exact h1, rfl, rfl, fun g gs s => h2.dn g gs (sm g gs s), fun g gs s => h2.un g gs (sm g gs s)⟩

/-- Operations in any order that Go leaves open; the names that they give may be given anew. -/
theorem aw_drawC {Q : Exit → St → Prop} {σ σ' : St} {n : Nat} (N : Nat) {id : Nat} {l : List Oper} (p : Nat) (t : OT) (hn : σ.nt = n) (hB : statB l.toArray n p = true) (hT : statT l.toArray p = true) (hm : P.follows .mixedOrders = true)
    (hok : okT l.toArray t (Array.ofFn fun j : Fin l.length => decide (j.val < p)) none = true) (hd : decide (p + t.depth ≤ l.length) = true)
    (h : qwl P l.toArray (l.take p) (fun σ1 => σ1.hp.nx ≤ N ∧ walkT P l.toArray t (fun σ2 => St.cp N σ2 σ') σ1) σ) (k : Q .normal σ') : Aw P (.region id l.toArray true) Q σ := by
  refine qwl_region (rest := t.depth) (by rw [hn]; exact hB) hT hm (K := fun σ1 => σ1.hp.nx ≤ N ∧ walkT P l.toArray t (fun σ2 => St.cp N σ2 σ') σ1) (by simpa using h) (fun σ1 hK0 g0 h0 w0 g w a listed fuel hsz hon hf fr => ?_) (by simpa using hd)
  obtain ⟨hNN, hK⟩ := hK0
  have hg : g0.nx ≤ N := by
    have h1 : g0.nx ≤ g.nx := fr.st.ext.nx
    rw [fr.st.hp.nx] at h1; omega
  have hl : listed = Array.ofFn fun j : Fin l.length => decide (j.val < p) := by
    apply Array.ext
    · simpa using hsz
    · intro j h1 h2
      have := hon j
      unfold isOn at this
      simp only [Array.getD_eq_getD_getElem?, Array.getElem?_eq_getElem h1, Option.getD_some] at this
      simp [this]
  subst hl
  have base := tail_any (Q := fun e σ1 => match e with | .normal => St.cp N σ1 σ' | _ => False) (g0 := g0) (h0 := h0) (w0 := w0) t.depth t _ σ1 g w a fuel (Nat.le_refl _) hok hK fr hf
  have mono : ∀ (n : Nat) (listed : Array Bool) (a : Act) (w : World), wpAny P .any l.toArray (Post g0 h0 w0 fun e σ1 => match e with | .normal => St.cp N σ1 σ' | _ => False) n listed a w → wpAny P .any l.toArray (Post g0 h0 w0 Q) n listed a w := by
    have post : ∀ e a w, Post g0 h0 w0 (fun e σ1 => match e with | .normal => St.cp N σ1 σ' | _ => False) e a w → Post g0 h0 w0 Q e a w := fun e a w ⟨σ2, g2, k1, k2⟩ => by
      cases e with
      | normal => obtain ⟨g3, k3⟩ := k1 g0 h0 w0 g2 w a hg k2; exact ⟨σ', g3, k, k3⟩
      | _ => exact k1.elim
    intro n
    induction n with
    | zero => intro listed a w h; exact ⟨h.1, post _ _ _ h.2⟩
    | succ n ih =>
      intro listed a w h
      refine ⟨fun q => post _ _ _ (h.1 q), fun i hi => ?_⟩
      have := h.2 i hi
      unfold wpOp at this ⊢
      split
      · rename_i ho; rw [ho] at this; exact ih _ _ _ this
      · rename_i o ho
        rw [ho] at this
        simp only at this
        split
        · rename_i hw
          rw [if_pos hw] at this
          rcases this with h1 | ⟨h1, a', w', h2⟩
          · exact .inl (wp_op_mono (fun a w => ih _ a w) post h1)
          · exact .inr ⟨h1, a', w', post _ _ _ h2⟩
        · rename_i hw; rw [if_neg hw] at this; exact ih _ _ _ this
  exact mono _ _ _ _ base

/-- A heap that speaks of its own names alone. -/
structure Own (h : Hp) : Prop where
  bx : ∀ p ∈ h.boxes, p.1 < h.nx ∧ RnL id h.nx p.2 p.2
  tk : ∀ p ∈ h.toks, p.1 < h.nx ∧ RnR id h.nx p.2.xs p.2.xs

/-- Back to a heap of fewer names. -/
theorem cp_back {σ : St} {sl : List (Nat × AV)} {h : Hp} {n : Nat} (ho : Own h) (hle : h.nx ≤ σ.hp.nx) (hnt : n = σ.nt) (hs : ∀ p ∈ sl, lk σ.slots p.1 = some p.2) (hn : ∀ p ∈ sl, Rn id h.nx p.2 p.2)
    (hb : ∀ p ∈ h.boxes, lk σ.hp.boxes p.1 = some p.2) (ht : ∀ p ∈ h.toks, lk σ.hp.toks p.1 = some p.2) : St.cp h.nx σ ⟨sl, h, n⟩ := by
  subst hnt
  exact St.cp_drop (σ' := ⟨sl, h, σ.nt⟩) hle rfl (fun p hp => ⟨hs p hp, hn p hp⟩) (fun p hp => ⟨(ho.bx p hp).1, hb p hp, (ho.bx p hp).2⟩) (fun p hp => ⟨(ho.tk p hp).1, ht p hp, (ho.tk p hp).2⟩)

/-- A function that reads, at its end. -/
theorem retC_one {σ : St} {h : Hp} {v : AV} {N : Nat} (t : Nat) (ho : Own h) (hN : h.nx = N) (hle : N ≤ σ.hp.nx) (hv : lk σ.slots t = some v) (hp : Rn id N v v) (hb : ∀ p ∈ h.boxes, lk σ.hp.boxes p.1 = some p.2) (ht : ∀ p ∈ h.toks, lk σ.hp.toks p.1 = some p.2) :
    ∃ σ', St.cp N σ σ' ∧ resK (resOf P σ' [.tmp t]) (fun r h' => r = v ∧ h' = h) σ'.hp := by
  subst hN
  refine ⟨⟨[(t, v)], h, σ.nt⟩, cp_back ho hle rfl (by simpa using hv) (by simpa using hp) hb ht, ?_⟩
  have : resOf P ⟨[(t, v)], h, σ.nt⟩ [.tmp t] = some [v] := by simp [resOf, lk]
  rw [this]
  exact ⟨rfl, rfl⟩
end
end Go.Ab
