/- Regions that draw their order, the rest of them: what stands behind the first operations, in each order that its edges allow. Conditions: those that each theorem names. -/
import Derived.Test.YtfnmdmadaljjkaaDraw
namespace Go.Ab

/-- The orders: 'leaf': all has run; 'alt i t r': either i comes next, and then t, or r. -/
inductive OT where
  | leaf
  | nil
  | alt (i : Nat) (t r : OT)

def OT.depth : OT → Nat
  | .leaf => 0
  | .nil => 0
  | .alt _ t r => max (t.depth + 1) r.depth

/-- Are these all the orders? -/
def okT (ops : Array Oper) : OT → Array Bool → Option (List Nat) → Bool
  | .leaf, listed, none => (Region.ready .any ops listed).isEmpty
  | .leaf, _, some _ => false
  | .nil, _, some [] => true
  | .nil, _, _ => false
  | .alt i t r, listed, rem => match rem.getD (Region.ready .any ops listed) with
    | j :: js => i == j && okT ops t (listed.setIfInBounds i true) none && okT ops r listed (some js)
    | [] => false

def oneK (P : Program) (ops : Array Oper) (i : Nat) (K : St → Prop) (σ : St) : Prop :=
  match ops[i]? with
  | some o => awl P ops [o] K σ
  | none => False
def walkT (P : Program) (ops : Array Oper) : OT → (St → Prop) → St → Prop
  | .leaf, K, σ => K σ
  | .nil, _, _ => True
  | .alt i t r, K, σ => oneK P ops i (walkT P ops t K) σ ∧ walkT P ops r K σ

section
variable {P : Program} {ops : Array Oper}
theorem Xbu {K : St → Prop} {σ : St} : walkT P ops .leaf K σ = K σ := rfl
theorem Xbv {i : Nat} {t : OT} {K : St → Prop} {σ : St} : walkT P ops (.alt i t .nil) K σ = oneK P ops i (walkT P ops t K) σ := by simp [walkT]
theorem Xbw {i j : Nat} {t u r : OT} {K : St → Prop} {σ : St} : walkT P ops (.alt i t (.alt j u r)) K σ = (oneK P ops i (walkT P ops t K) σ ∧ walkT P ops (.alt j u r) K σ) := rfl

theorem chain {K : St → Prop} {σ : St} {listed : Array Bool} : ∀ (t : OT) (rem : List Nat), okT ops t listed (some rem) = true → walkT P ops t K σ → ∀ i ∈ rem, ∃ t', okT ops t' (listed.setIfInBounds i true) none = true ∧ oneK P ops i (walkT P ops t' K) σ ∧ t'.depth < t.depth
  | .leaf, rem, h, _, i, hi => by simp [okT] at h
  | .nil, [], _, _, i, hi => by cases hi
  | .nil, _ :: _, h, _, i, hi => by simp [okT] at h
  | .alt j t r, [], h, _, i, hi => by cases hi
  | .alt j t r, k :: ks, h, hw, i, hi => by
    simp only [okT, Option.getD_some, Bool.and_eq_true, beq_iff_eq] at h
    obtain ⟨⟨rfl, h2⟩, h3⟩ := h
    simp only [List.mem_cons] at hi
    rcases hi with rfl | hi
    · exact ⟨t, h2, hw.1, by simp only [OT.depth]; omega⟩
    · obtain ⟨t', e1, e2, e3⟩ := chain r ks h3 hw.2 i hi
      exact ⟨t', e1, e2, by simp only [OT.depth]; omega⟩

theorem tail_any {Q : Exit → St → Prop} {g0 : Gh} {h0 : Hp} {w0 : World} : ∀ (n : Nat) (t : OT) (listed : Array Bool) (σ : St) (g : Gh) (w : World) (a : Act) (fuel : Nat), t.depth ≤ n → okT ops t listed none = true → walkT P ops t (Q .normal) σ → FRel g0 h0 w0 σ g w a → t.depth ≤ fuel → wpAny P .any ops (Post g0 h0 w0 Q) fuel listed a w := by
  intro n
  induction n with
  | zero =>
    intro t listed σ g w a fuel hd hok hw r hf
    have : t = .leaf := by
      cases t with
      | leaf => rfl
      | nil => simp [okT] at hok
      | alt i t r => simp only [OT.depth] at hd; omega
    subst this
    have hnil : Region.ready .any ops listed = [] := by simpa [okT] using hok
    cases fuel with
    | zero => exact ⟨hnil, σ, g, hw, r⟩
    | succ fuel => exact ⟨fun _ => ⟨σ, g, hw, r⟩, fun i hi => by rw [hnil] at hi; cases hi⟩
  | succ n ih =>
    intro t listed σ g w a fuel hd hok hw r hf
    cases t with
    | leaf => exact ih .leaf listed σ g w a fuel (Nat.zero_le _) hok hw r hf
    | nil => simp [okT] at hok
    | alt j t u =>
      have hok' : okT ops (.alt j t u) listed (some (Region.ready .any ops listed)) = true := by
        simp only [okT, Option.getD_some, Option.getD_none] at hok ⊢; exact hok
      obtain ⟨fuel, rfl⟩ : ∃ f, fuel = f + 1 := ⟨fuel - 1, by simp only [OT.depth] at hf; omega⟩
      refine ⟨fun hnil => ?_, fun i hi => ?_⟩
      · simp [okT, hnil] at hok
      · obtain ⟨t', e1, e2, e3⟩ := chain _ _ hok' hw i hi
        have hgo : ∀ σ' g' w' a', walkT P ops t' (Q .normal) σ' → FRel g0 h0 w0 σ' g' w' a' → wpAny P .any ops (Post g0 h0 w0 Q) fuel (listed.setIfInBounds i true) a' w' :=
          fun σ' g' w' a' k1 k2 => ih t' _ σ' g' w' a' fuel (by omega) e1 k1 k2 (by omega)
        unfold oneK at e2
        unfold wpOp
        cases ho : ops[i]? with
        | none => simp only [ho] at e2
        | some o =>
          simp only [ho] at e2
          simp only [awl, gwl] at e2
          have step : awo P o (fun σ => walkT P ops t' (Q .normal) σ) σ → o.wp P a w (wpAny P .any ops (Post g0 h0 w0 Q) fuel (listed.setIfInBounds i true)) (Post g0 h0 w0 Q) := fun hh =>
            Oper.wp_mono (fun a' w' ⟨σ', g', k1, k2⟩ => hgo σ' g' w' a' k1 k2) (awo_sound hh g0 h0 w0 g w a (Post g0 h0 w0 Q) r)
          cases hg : o.guard with
          | none =>
            simp only [hg] at e2
            simp only [Region.wanted, hg, if_true]
            exact .inl (step e2)
          | some p =>
            obtain ⟨k, want⟩ := p
            simp only [hg] at e2
            cases hb : guardBit ops σ k want with
            | none => simp only [hb] at e2
            | some b =>
              simp only [hb] at e2
              have hy := guard_sound r hb
              simp only [Region.wanted, hg, hy]
              by_cases hw' : b = want
              · subst hw'
                simp only [beq_self_eq_true, if_true]
                exact .inl (step (e2.1 rfl))
              · have : (b == want) = false := by simp [hw']
                simp only [this]
                exact hgo _ g w _ (e2.2 (by cases b <;> cases want <;> simp_all)) (r.drop o.dst)

theorem wp_op_mono {o : Oper} {a : Act} {w : World} {K K' : Act → World → Prop} {Q Q' : Exit → Act → World → Prop} (h : ∀ a w, K a w → K' a w) (hq : ∀ e a w, Q e a w → Q' e a w) (hh : o.wp P a w K Q) : o.wp P a w K' Q' := by
  unfold Oper.wp at *
  generalize (execOp a.eval o).run P w = r at *
  cases r with
  | ok n w' =>
    cases n <;> simp only [Oper.upon] at hh ⊢ <;>
      first
        | exact h _ _ hh
        | exact Calls.mono hh (fun e w'' he => by cases e <;> first | exact h _ _ he | exact hq _ _ _ he | (obtain ⟨a1, w1, h1⟩ := he; exact ⟨a1, w1, hq _ _ _ h1⟩))
        | exact Rows.mono hh (fun _ _ he => h _ _ he)
  | halt x w' => cases x <;> simp only [Oper.upon] at hh ⊢ <;> exact hq _ _ _ hh

/-- A REGION: the first p operations change nothing; the others in each order of the tree. Behind it the walk goes on from one state. -/
theorem aw_draw {Q : Exit → St → Prop} {σ σ' : St} {id : Nat} {l : List Oper} (p : Nat) (t : OT) (hB : statB l.toArray σ.nt p = true) (hT : statT l.toArray p = true) (hm : P.follows .mixedOrders = true)
    (hok : okT l.toArray t (Array.ofFn fun j : Fin l.length => decide (j.val < p)) none = true) (hd : decide (p + t.depth ≤ l.length) = true)
    (h : qwl P l.toArray (l.take p) (walkT P l.toArray t fun σ1 => St.wk σ1 σ') σ) (k : Q .normal σ') : Aw P (.region id l.toArray true) Q σ := by
  refine qwl_region (rest := t.depth) hB hT hm (K := walkT P l.toArray t fun σ1 => St.wk σ1 σ') (by simpa using h) (fun σ1 hK g0 h0 w0 g w a listed fuel hsz hon hf fr => ?_) (by simpa using hd)
  have hl : listed = Array.ofFn fun j : Fin l.length => decide (j.val < p) := by
    apply Array.ext
    · simpa using hsz
    · intro j h1 h2
      have := hon j
      unfold isOn at this
      simp only [Array.getD_eq_getD_getElem?, Array.getElem?_eq_getElem h1, Option.getD_some] at this
      simp [this]
  subst hl
  have base := tail_any (Q := fun e σ1 => match e with | .normal => St.wk σ1 σ' | _ => False) (g0 := g0) (h0 := h0) (w0 := w0) t.depth t _ σ1 g w a fuel (Nat.le_refl _) hok hK fr hf
  have mono : ∀ (n : Nat) (listed : Array Bool) (a : Act) (w : World), wpAny P .any l.toArray (Post g0 h0 w0 fun e σ1 => match e with | .normal => St.wk σ1 σ' | _ => False) n listed a w → wpAny P .any l.toArray (Post g0 h0 w0 Q) n listed a w := by
    have post : ∀ e a w, Post g0 h0 w0 (fun e σ1 => match e with | .normal => St.wk σ1 σ' | _ => False) e a w → Post g0 h0 w0 Q e a w := fun e a w ⟨σ2, g2, k1, k2⟩ => by
      cases e with
      | normal => obtain ⟨g3, k3⟩ := k1 g0 h0 w0 g2 w a k2; exact ⟨σ', g3, k, k3⟩
      | _ => exact k1.elim
    intro n
    induction n with
    | zero => intro listed a w h; exact ⟨h.1, post _ _ _ h.2⟩
    | succ n ih =>
      intro listed a w h
      refine ⟨fun q => post _ _ _ (h.1 q), fun i hi => ?_⟩
      have := h.2 i hi
      unfold wpOp at this ⊢
      split
      · rename_i ho; rw [ho] at this; exact ih _ _ _ this
      · rename_i o ho
        rw [ho] at this
        simp only at this
        split
        · rename_i hw
          rw [if_pos hw] at this
          rcases this with h1 | ⟨h1, a', w', h2⟩
          · exact .inl (wp_op_mono (fun a w => ih _ a w) post h1)
          · exact .inr ⟨h1, a', w', post _ _ _ h2⟩
        · rename_i hw; rw [if_neg hw] at this; exact ih _ _ _ this
  exact mono _ _ _ _ base
end
end Go.Ab
