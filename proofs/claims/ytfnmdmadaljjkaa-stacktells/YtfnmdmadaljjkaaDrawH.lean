/- Regions that draw their order, of which the first operations hold one builtin call, or one store, while variables may be looked at before it or behind it. Conditions: those that each theorem names. -/
import Derived.Test.YtfnmdmadaljjkaaDrawG
set_option linter.unusedVariables false
set_option linter.unusedSimpArgs false
namespace Go.Ab
section
variable {P : Program} {ops : Array Oper} {p : Nat} {σ : St} {g0 : Gh} {h0 : Hp} {w0 : World}
/-- A heap that has all that another has. -/
def grows (h h' : Hp) : Prop := (∀ i c, lk h.boxes i = some c → lk h'.boxes i = some c) ∧ ∀ t k, lk h.toks t = some k → lk h'.toks t = some k
theorem grows_rfl {B : List (Nat × List AV)} {L L' : List (Nat × Tk)} {n m : Nat} (h : ∀ t k, lk L t = some k → lk L' t = some k) : grows ⟨B, L, n⟩ ⟨B, L', m⟩ := ⟨fun _ _ e => e, h⟩
theorem rowOf_grows {h h' : Hp} (gr : grows h h') {p : AV} {x : List AV × Nat} (k : rowOf h p = some x) : rowOf h' p = some x := by
  cases p with
  | ep t n s i off =>
    simp only [rowOf] at k ⊢
    cases e : lk h.toks t with
    | none => rw [e] at k; cases k
    | some q => rw [e] at k; rw [gr.2 t q e]; exact k
  | ptr id off =>
    simp only [rowOf] at k ⊢
    cases e : lk h.boxes id with
    | none => rw [e] at k; cases k
    | some q => rw [e] at k; rw [gr.1 id q e]; exact k
  | _ => exact k
theorem calm_grows {P : Program} {σ : St} {o : Oper} {v : AV} {h : Hp} (gr : grows σ.hp h) (hc : calm o = true) (k : valOp P σ o v) : valOp P { σ with hp := h } o v := by
  have key : ∀ op : Op, calm { o with op := op } = true → qOp P σ op = some v → qOp P { σ with hp := h } op = some v := by
    intro op hc k
    cases op with
    | load t x =>
      unfold qOp at k ⊢
      simp only [pureOp, ev_hp] at k ⊢
      cases h1 : tyOf P t with
      | none => rw [h1] at k; cases k
      | some ti =>
        cases h2 : ev σ x with
        | none => rw [h1, h2] at k; cases k
        | some p =>
          simp only [h1, h2] at k ⊢
          cases h3 : rowOf σ.hp p with
          | none => rw [h3] at k; cases k
          | some y => rw [h3] at k; rw [rowOf_grows gr h3]; exact k
    | move x => unfold qOp at k ⊢; simp only [pureOp, ev_hp] at k ⊢; exact k
    | assign x => unfold qOp at k ⊢; simp only [pureOp, ev_hp] at k ⊢; exact k
    | fieldAddr t x f => unfold qOp at k ⊢; simp only [pureOp, ev_hp] at k ⊢; exact k
    | binOp a b c d e => unfold qOp at k ⊢; simp only [pureOp, ev_hp] at k ⊢; exact k
    | _ => cases hc
  have ho : ∀ op, o.op = op → calm { o with op := op } = true := fun op e => by rw [← e]; exact hc
  unfold valOp at k ⊢
  cases hop : o.op with
  | pick c x y => have := ho _ hop; cases this
  | call c => have := ho _ hop; cases this
  | _ =>
    rw [hop] at k
    exact key _ (ho _ hop) k
/-- The look over it: the operation at f is the last of those that come first; what need not come before it hands on alone. -/
def statH (ops : Array Oper) (f : Nat) : Bool :=
  let B := (befs ops.toList []).getD f []
  (ops.getD f default).guard.isNone && isBuiltin (ops.getD f default) && (List.range f).all fun i => calm (ops.getD i default) || B.contains i

/-- A REGION: the first operations change nothing but for the one at f; the others in each order of the tree. Behind it the walk goes on from one state. -/
theorem aw_drawH {Q : Exit → St → Prop} {σ' : St} {n : Nat} (N : Nat) {id : Nat} {l : List Oper} (f : Nat) (t : OT) {o : Oper} (hof : l[f]? = some o) (hn : σ.nt = n) (hB : statB l.toArray n (f + 1) = true) (hT : statT l.toArray (f + 1) = true) (hSG : statH l.toArray f = true) (hm : P.follows .mixedOrders = true)
    (hok : okT l.toArray t (Array.ofFn fun j : Fin l.length => decide (j.val < f + 1)) none = true) (hd : decide (f + 1 + t.depth ≤ l.length) = true)
    (h : qwl P l.toArray (l.take f) (fun σ1 => effS P o (stepOp P σ1 o.op) (fun σ2 => grows σ.hp σ2.hp ∧ σ2.hp.nx ≤ N ∧ walkT P l.toArray t (fun σ3 => St.cp N σ3 σ') σ2) σ1) σ) (k : Q .normal σ') : Aw P (.region id l.toArray true) Q σ := by
  intro g0 h0 w0 g w a r
  have hB' : statB l.toArray σ.nt (f + 1) = true := by rw [hn]; exact hB
  have hs := Stat.of_B hB'
  have getD : ∀ j o, l[j]? = some o → l.toArray.getD j default = o := fun j o e => by simp [Array.getD_eq_getD_getElem?, e]
  unfold statH at hSG
  simp only [Bool.and_eq_true, List.all_eq_true, List.mem_range, Bool.or_eq_true, List.contains_eq_mem, decide_eq_true_eq] at hSG
  obtain ⟨⟨hgf, hbt⟩, hstill⟩ := hSG
  rw [getD f o hof] at hgf hbt
  have hgf : o.guard = none := by simpa using hgf
  have hlp : f + 1 ≤ l.length := by have := hs.le; simpa using this
  have hfl : f < l.length := by omega
  have hfp : f < f + 1 := Nat.lt_succ_self f
  have hfb : ∀ i, f < i → i < f + 1 → Bef l.toArray f i := fun i h1 h2 => by omega
  obtain ⟨ws1, t1, h1⟩ := qwl_trace _ _ h
  have hlen1 : (l.take f).length = f := by rw [List.length_take]; omega
  have hL : l.take (f + 1) = l.take f ++ [o] := by
    obtain ⟨hfl', e3⟩ := List.getElem?_eq_some_iff.1 hof
    rw [List.take_add_one, hof]; rfl
  generalize hl1 : l.take f = l1 at hL t1 h1 hlen1
  have hw1 : ws1.length = f := by rw [t1.len, hlen1]
  generalize hi1 : (l1.map (·.dst)).zip ws1 = it1 at h1 t1
  have hit1 : it1.length = f := by rw [← hi1]; simp [hlen1, hw1]
  unfold effS at h1
  split at h1
  rotate_left
  · exact h1.elim
  rename_i x rv hF hx
  have hitems : ((l.take (f + 1)).map (·.dst)).zip (ws1 ++ [rv]) = it1 ++ [(o.dst, rv)] := by
    rw [hL, List.map_append, List.zip_append (by simp [hlen1, hw1]), hi1]; rfl
  have hgr : grows σ.hp hF := by have := h1.1; rwa [(put_hp _ _ _).1] at this
  have tF : TraceG P l.toArray f hF (l.toArray.toList.take (f + 1)) σ (ws1 ++ [rv]) := by
    show TraceG P l.toArray f hF (l.take (f + 1)) σ _
    refine ⟨by rw [hL]; simp [hlen1, hw1], fun i o' v e1 e2 => ?_⟩
    rw [hitems]
    rw [hL] at e1
    rcases Nat.lt_trichotomy i f with hi | hi | hi
    · rw [List.getElem?_append_left (by omega)] at e1 e2
      rw [List.take_append_of_le_length (by omega)]
      obtain ⟨b, hg, hv, hk⟩ := t1.step i o' v e1 e2
      rw [hi1] at hv hg
      have hol : l[i]? = some o' := by rw [← hl1, List.getElem?_take, if_pos hi] at e1; exact e1
      refine ⟨b, hg, fun hb => ⟨fun _ => ⟨hv hb, ?_⟩, fun h => by omega, fun h => by omega⟩, fun hb => ⟨hk hb, by omega⟩⟩
      have hst := hstill i hi
      rw [getD i o' hol] at hst
      rcases hst with hst | hst
      · exact .inr (calm_grows (by rw [(stAt_hp _ σ).1]; exact hgr) hst (hv hb))
      · exact .inl (befs_sound (ops := l.toArray) l.toArray.toList [] (by simp) (by simp) (by simp) f i (by simpa using hst))
    · subst hi
      rw [List.getElem?_append_right (by omega), hlen1, Nat.sub_self] at e1
      rw [List.getElem?_append_right (by omega), hw1, Nat.sub_self] at e2
      simp only [List.getElem?_cons_zero, Option.some.injEq] at e1 e2
      subst e1; subst e2
      rw [List.take_append_of_le_length (by omega), List.take_of_length_le (by omega)]
      refine ⟨true, .inl ⟨hgf, rfl⟩, fun _ => ⟨fun h => by omega, fun _ => ?_, fun h => by omega⟩, fun h => by cases h⟩
      unfold isBuiltin at hbt
      split at hbt
      · rename_i b args tys ho
        unfold effG
        rw [ho] at hx
        rw [ho]
        exact hx
      · cases hbt
    · rw [List.getElem?_append_right (by omega), hlen1] at e1
      have : 1 ≤ i - f := by omega
      rw [List.getElem?_eq_none (by simpa using this)] at e1
      cases e1
  have hKs : ({ stAt σ it1 with hp := hF } : St).put o.dst rv = { stAt σ (((l.toArray.toList.take (f + 1)).map (·.dst)).zip (ws1 ++ [rv])) with hp := hF } := by
    show _ = { stAt σ (((l.take (f + 1)).map (·.dst)).zip (ws1 ++ [rv])) with hp := hF }
    rw [hitems, stAt_app, put_set]; rfl
  rw [hKs] at h1
  obtain ⟨_, hNN, hW⟩ := h1
  refine wp_region_any hm ?_
  have off : ∀ j, isOn (Array.replicate l.toArray.size false) j = false := fun j => by
    unfold isOn
    simp only [Array.getD_eq_getD_getElem?, Array.getElem?_replicate]
    split <;> rfl
  have hd' : f + 1 + t.depth ≤ l.length := by simpa using hd
  have hcur : hpF (Array.replicate l.toArray.size false) f σ.hp hF = σ.hp := by unfold hpF; rw [if_neg (by rw [off]; exact Bool.false_ne_true)]
  refine quiet_anyG (rest := t.depth) hs hfp hfb (fun i j hi hj hn => statT_sound hT hi hj hn) tF ?_ (f + 1) _ _ g _ a (by simp) (fun j hj => by rw [off] at hj; cases hj) (fun i j _ hj => by rw [off] at hj; cases hj) (by
      refine Nat.le_trans (List.length_filter_le _ _) ?_
      simp) (by simpa using hd') (by rw [hcur]; exact ⟨⟨r.st.hp.drew, r.st.ext, r.st.keeps.trans (Keeps.drew (Live g σ.hp) w) r.st.live, r.st.live, r.st.memo⟩, r.nt, r.defers, fun j o v s hL => (by rw [off] at hL; cases hL), fun s v _ e => r.slots s v e⟩)
  intro g w a listed fuel hsz hon hf fr
  have hg : g0.nx ≤ N := by
    have h1 : g0.nx ≤ g.nx := fr.st.ext.nx
    rw [fr.st.hp.nx] at h1; exact Nat.le_trans h1 hNN
  have hl : listed = Array.ofFn fun j : Fin l.length => decide (j.val < f + 1) := by
    apply Array.ext
    · simpa using hsz
    · intro j h1 h2
      have := hon j
      unfold isOn at this
      simp only [Array.getD_eq_getD_getElem?, Array.getElem?_eq_getElem h1, Option.getD_some] at this
      simp [this]
  subst hl
  have base := tail_any (Q := fun e σ1 => match e with | .normal => St.cp N σ1 σ' | _ => False) (g0 := g0) (h0 := h0) (w0 := w0) t.depth t _ _ g w a fuel (Nat.le_refl _) hok hW fr hf
  have mono : ∀ (n : Nat) (listed : Array Bool) (a : Act) (w : World), wpAny P .any l.toArray (Post g0 h0 w0 fun e σ1 => match e with | .normal => St.cp N σ1 σ' | _ => False) n listed a w → wpAny P .any l.toArray (Post g0 h0 w0 Q) n listed a w := by
    have post : ∀ e a w, Post g0 h0 w0 (fun e σ1 => match e with | .normal => St.cp N σ1 σ' | _ => False) e a w → Post g0 h0 w0 Q e a w := fun e a w ⟨σ2, g2, k1, k2⟩ => by
      cases e with
      | normal => obtain ⟨g3, k3⟩ := k1 g0 h0 w0 g2 w a hg k2; exact ⟨σ', g3, k, k3⟩
      | _ => exact k1.elim
    intro n
    induction n with
    | zero => intro listed a w h; exact ⟨h.1, post _ _ _ h.2⟩
    | succ n ih =>
      intro listed a w h
      refine ⟨fun q => post _ _ _ (h.1 q), fun i hi => ?_⟩
      have := h.2 i hi
      unfold wpOp at this ⊢
      split
      · rename_i ho; rw [ho] at this; exact ih _ _ _ this
      · rename_i o ho
        rw [ho] at this
        simp only at this
        split
        · rename_i hw
          rw [if_pos hw] at this
          rcases this with h1 | ⟨h1, a', w', h2⟩
          · exact .inl (wp_op_mono (fun a w => ih _ a w) post h1)
          · exact .inr ⟨h1, a', w', post _ _ _ h2⟩
        · rename_i hw; rw [if_neg hw] at this; exact ih _ _ _ this
  exact mono _ _ _ _ base
end
end Go.Ab
