/- Contracts: a number brought into a range; what acts make: the function; its bounds. Conditions: those that each theorem names. Contract: what acts make. Conditions: those that each theorem names. -/
import Derived.Test.YtfnmdmadaljjkaaXzz
import Derived.Test.YtfnmdmadaljjkaaSd
section
namespace Go.Proofs.Ytfnmdmadaljjkaa
open Go.Ab
set_option linter.unusedSimpArgs false
set_option linter.unusedVariables false
set_option maxRecDepth 20000
set_option maxHeartbeats 4000000

theorem brought_spec (k n : Int) (h0 : 0 < n) (h1 : n ≤ 1000000000) : PCall Try.prog 19 [.lit (.int .i64 k), .lit (.int .i64 n)] (.lit (.int .i64 (k.emod n))) := by
  refine PCall_intro Try.func19 rfl Try.ntmps19 (rs := [.tmp 4]) rfl (by simp) ?_
  have z : (n = 0) = False := by simp; omega
  have b1 := Int.tmod_lt_of_pos k h0
  have b2 : -n < k.tmod n := by have := Int.tmod_lt_of_pos (-k) h0; rw [Int.neg_tmod] at this; omega
  have w1 : IntKind.i64.wrap (k.tmod n + n) = k.tmod n + n := i64w (by omega) (by omega)
  have w2 : (k.tmod n + n).tmod n = k.emod n := by
    rw [Int.tmod_eq_emod_of_nonneg (by omega)]
    show (k.tmod n + n) % n = k % n
    rw [Int.add_emod_right, Int.tmod_eq_emod]
    split
    · simp
    · have : (n.natAbs : Int) = n := Int.natAbs_of_nonneg (by omega)
      rw [this, Int.sub_emod]; simp
  simp -implicitDefEqProofs only [awl, ne_eq, srcRows, awo, aggEq, eqF, litEq, andO, qwl, qwo, Go.Ab.qOp, lop, oneK, stepOp, pairO, pureOp, heapOp, entry, slotsOf, ev, evL, evP, evO, lk, up, St.put, St.drop, constAV, cellAV, cellsAV, plain, binV, nilCmp, intBin, strBin, guardBit, boolOf, fnOf, intOfAV, bound, resOf, retV, moved, rowOf, valAt, Kd.agg, AV.cells, splice, places, fillAV, rowsFill, Hp.none, ↓reduceIte, reduceCtorEq, Nat.reduceLT, Nat.reduceEqDiff, Nat.reduceAdd, Nat.reduceLeDiff, Nat.reducePow, Nat.reduceMul, Yzz, Xzz, Yzy, tyW, z, if_false, w1, w2]
  exact expo_pure (.lit _)
structure Ac where
  kind : Int
  a : Int
  b : Int
  f : Int × Int
  l : Sk
def encAc (x : Ac) : List AV := [.lit (.int .i64 x.kind), .lit (.int .i64 x.a), .lit (.int .i64 x.b), .lit (.int .i64 x.f.1), .lit (.int .i64 x.f.2), .vec (x.l.map encP) false]
theorem pure_encAc (x : Ac) : ∀ c ∈ encAc x, Ab.Pure c := allc (.lit _) (allc (.lit _) (allc (.lit _) (allc (.lit _) (allc (.lit _) (allc (.vec (pure_rows pure_encP _)) alln)))))
abbrev Pr := Option Tr × List Sk
def encPr (p : Pr) : List AV := [encO p.1, .vec (p.2.map encR) false]
def bring (k : Int) (n : Nat) : Nat := (k.emod n).toNat
def madeStep (out : List Pr) (x : Ac) : Pr :=
  let p := out.getD (bring x.a out.length) (none, [])
  let q := out.getD (bring x.b out.length) (none, [])
  if x.kind = 0 then (if x.l.length ≤ 8 then (ofO x.l, [x.l]) else (none, []))
  else if x.kind = 1 then (pushO x.f.1 x.f.2 p.1, pushL x.f p.2)
  else if x.kind = 2 then (comb p.1 q.1, joinL p.2 q.2)
  else if x.kind = 3 then (belowO x.f.1 x.f.2 p.1, belowL x.f p.2)
  else if x.kind = 5 then (emptyO, [[]])
  else (none, [])
def madeL : Nat → List Pr → List Ac → List Pr
  | _, out, [] => out
  | i, out, x :: l => if 30 ≤ i then out else if (madeStep out x).2.length > 300 then out else madeL (i + 1) (out ++ [madeStep out x]) l
def made0 : List Pr := [(none, []), (emptyO, [[]])]
/-- What is known of bundles made in so many acts. -/
structure PrOk (i : Nat) (p : Pr) : Prop where
  wf : WfO p.1
  bd : BndO (2 ^ i / 2) p.1
  len : p.2.length ≤ 300
  sks : ∀ s ∈ p.2, s.length ≤ 8 + i
theorem BndO.mono {n m : Nat} (h : n ≤ m) {o : Option Tr} (k : BndO n o) : BndO m o := fun t e => (k t e).mono h
theorem pw_mono (i : Nat) : 2 ^ i / 2 ≤ 2 ^ (i + 1) / 2 := Nat.div_le_div_right (Nat.pow_le_pow_right (by decide) (by omega))
theorem PrOk.next {i : Nat} {p : Pr} (h : PrOk i p) : PrOk (i + 1) p := ⟨h.wf, h.bd.mono (pw_mono i), h.len, fun s hs => by have := h.sks s hs; omega⟩
theorem BndO.none {n : Nat} : BndO n none := fun t e => by cases e
theorem BndO.empty {n : Nat} : BndO n emptyO := fun t e => by cases e; exact .mk (by simp) (by simp)
theorem wfo_empty : WfO emptyO := fun t e => by cases e; exact .mk trivial (by simp) (.inl rfl)
theorem made0_ok : ∀ p ∈ made0, PrOk 0 p := by
  intro p hp
  simp only [made0, List.mem_cons, List.not_mem_nil, or_false] at hp
  rcases hp with rfl | rfl
  · exact ⟨.none, .none, by simp, by simp⟩
  · exact ⟨wfo_empty, .empty, by simp, by simp⟩
theorem Bnd.push {n : Nat} {s l : Int} {o : Option Tr} (h : BndO n o) (hn : 1 ≤ n) : BndO n (pushO s l o) := by
  cases o with
  | none => exact .none
  | some t =>
    intro u e
    cases e
    exact .mk (by simpa using hn) (fun w hw => by rcases List.mem_singleton.1 hw with rfl; exact h t rfl)
theorem Bnd.join : ∀ {n m : Nat} {a b : Tr}, Bnd n a → Bnd m b → Bnd (n + m) (joinTr a b)
  | n, m, .mk b ws, .mk c vs, ha, hb => by
    have ih : ∀ w ∈ ws, ∀ v ∈ vs, Bnd (n + m) (joinTr w.t v.t) := fun w hw v hv => Bnd.join (ha.kid w hw) (hb.kid v hv)
    rw [joinTr_mk]
    refine .mk (Nat.le_trans (joinWs_len_le ws vs) (Nat.add_le_add ha.len hb.len)) ?_
    have key : ∀ (ws' vs' : List Wy), (∀ w ∈ ws', w ∈ ws) → (∀ v ∈ vs', v ∈ vs) → ∀ x ∈ joinWs ws' vs', Bnd (n + m) x.t := by
      intro ws' vs'
      induction h : ws'.length + vs'.length using Nat.strongRecOn generalizing ws' vs' with
      | _ k IH =>
        intro h1 h2 x hx
        cases ws' with
        | nil => rw [joinWs_nil_left] at hx; exact (hb.kid x (h2 x hx)).mono (by omega)
        | cons w ws' =>
          cases vs' with
          | nil => rw [joinWs_nil_right] at hx; exact (ha.kid x (h1 x hx)).mono (by omega)
          | cons v vs' =>
            simp only [List.length_cons] at h
            rw [joinWs_cons] at hx
            split at hx
            · rcases List.mem_cons.1 hx with rfl | hx
              · exact (ha.kid _ (h1 _ (by simp))).mono (by omega)
              · exact IH _ (by simp only [List.length_cons]; omega) ws' (v :: vs') rfl (fun w hw => h1 w (by simp [hw])) h2 x hx
            · split at hx
              · rcases List.mem_cons.1 hx with rfl | hx
                · exact (hb.kid _ (h2 _ (by simp))).mono (by omega)
                · exact IH _ (by simp only [List.length_cons]; omega) (w :: ws') vs' rfl h1 (fun v hv => h2 v (by simp [hv])) x hx
              · rcases List.mem_cons.1 hx with rfl | hx
                · exact ih w (h1 w (by simp)) v (h2 v (by simp))
                · exact IH _ (by omega) ws' vs' rfl (fun w hw => h1 w (by simp [hw])) (fun v hv => h2 v (by simp [hv])) x hx
    exact key ws vs (fun _ h => h) (fun _ h => h)
termination_by n m a => szT a
decreasing_by exact szT_kid hw
theorem BndO.comb {n m : Nat} {a b : Option Tr} (ha : BndO n a) (hb : BndO m b) : BndO (n + m) (comb a b) := by
  cases a with
  | none => exact hb.mono (by omega)
  | some x =>
    cases b with
    | none => exact ha.mono (by omega)
    | some y => exact fun t e => by cases e; exact Bnd.join (ha x rfl) (hb y rfl)
theorem BndO.below {n : Nat} {s l : Int} {o : Option Tr} (h : BndO n o) : BndO n (belowO s l o) := fun u e => by
  cases o with
  | none => cases e
  | some t =>
    obtain ⟨b, ws⟩ := t
    obtain ⟨w, hw, _, _, q⟩ := findW_mem (show findW s l ws = some u from e)
    rw [← q]; exact (h _ rfl).kid w hw
theorem ofO_ok (l : List (Int × Int)) : WfO (ofO l) ∧ BndO 1 (ofO l) := by
  have : ∀ (l : List (Int × Int)) (o : Option Tr), WfO o → BndO 1 o → WfO (l.foldl (fun b f => pushO f.1 f.2 b) o) ∧ BndO 1 (l.foldl (fun b f => pushO f.1 f.2 b) o) := by
    intro l
    induction l with
    | nil => exact fun o h1 h2 => ⟨h1, h2⟩
    | cons f l ih => exact fun o h1 h2 => ih _ h1.push (Bnd.push h2 (Nat.le_refl _))
  exact this l emptyO wfo_empty .empty
theorem getD_ok {i : Nat} {out : List Pr} (h : ∀ p ∈ out, PrOk i p) (k : Nat) : PrOk i (out.getD k (none, [])) := by
  rw [List.getD_eq_getElem?_getD]
  cases q : out[k]? with
  | none => exact ⟨.none, .none, by simp, by simp⟩
  | some p => exact h p (List.mem_of_getElem? q)
theorem madeStep_ok {i : Nat} {out : List Pr} (h : ∀ p ∈ out, PrOk i p) (x : Ac) (hl : (madeStep out x).2.length ≤ 300) : PrOk (i + 1) (madeStep out x) := by
  have hp := getD_ok h (bring x.a out.length)
  have hq := getD_ok h (bring x.b out.length)
  have h1 : 1 ≤ 2 ^ (i + 1) / 2 := by
    have : 1 ≤ 2 ^ i := Nat.one_le_two_pow
    rw [Nat.pow_succ]; omega
  have h2 : 2 ^ i / 2 + 2 ^ i / 2 ≤ 2 ^ (i + 1) / 2 := by rw [Nat.pow_succ]; omega
  unfold madeStep at hl ⊢
  generalize out.getD (bring x.a out.length) (none, []) = p at hp hl ⊢
  generalize out.getD (bring x.b out.length) (none, []) = q at hq hl ⊢
  simp only at hl ⊢
  split
  · split
    · rename_i hk hx
      exact ⟨(ofO_ok x.l).1, (ofO_ok x.l).2.mono h1, by simp, by simp; omega⟩
    · exact ⟨.none, .none, by simp, by simp⟩
  · split
    · rename_i hk0 hk
      rw [if_neg hk0, if_pos hk] at hl
      refine ⟨hp.wf.push, Bnd.push (hp.bd.mono (pw_mono i)) h1, hl, fun s hs => ?_⟩
      obtain ⟨y, hy, rfl⟩ := pushL_mem _ _ s hs
      have := hp.sks y hy
      simp only [List.length_append, List.length_cons, List.length_nil]; omega
    · split
      · rename_i hk0 hk1 hk
        rw [if_neg hk0, if_neg hk1, if_pos hk] at hl
        refine ⟨hp.wf.comb hq.wf, (hp.bd.comb hq.bd).mono h2, hl, fun s hs => ?_⟩
        rcases joinL_mem _ _ s hs with h | h
        · have := hp.sks s h; omega
        · have := hq.sks s h; omega
      · split
        · rename_i hk0 hk1 hk2 hk
          rw [if_neg hk0, if_neg hk1, if_neg hk2, if_pos hk] at hl
          refine ⟨hp.wf.below, (hp.bd.mono (pw_mono i)).below, hl, fun s hs => ?_⟩
          have := hp.sks _ (belowL_mem _ _ s hs)
          simp only [List.length_append, List.length_cons, List.length_nil] at this; omega
        · split
          · exact ⟨wfo_empty, .empty, by simp, by simp⟩
          · exact ⟨.none, .none, by simp, by simp⟩
theorem PrOk.up {p : Pr} : ∀ (k i : Nat), i + k = 30 → PrOk i p → PrOk 30 p
  | 0, i, e, hp => by have : i = 30 := by omega
                      subst this; exact hp
  | k + 1, i, e, hp => PrOk.up k (i + 1) (by omega) hp.next
theorem madeL_ok : ∀ (l : List Ac) (i : Nat) (out : List Pr), i ≤ 30 → out.length = i + 2 → (∀ p ∈ out, PrOk i p) → (∀ p ∈ madeL i out l, PrOk 30 p) ∧ 2 ≤ (madeL i out l).length ∧ (madeL i out l).length ≤ 32
  | [], i, out, hi, hn, h => ⟨fun p hp => (h p hp).up (30 - i) i (by omega), by simp only [madeL]; omega, by simp only [madeL]; omega⟩
  | x :: l, i, out, hi, hn, h => by
    have base : (∀ p ∈ out, PrOk 30 p) ∧ 2 ≤ out.length ∧ out.length ≤ 32 := ⟨fun p hp => (h p hp).up (30 - i) i (by omega), by omega, by omega⟩
    simp only [madeL]
    split
    · exact base
    · split
      · exact base
      · rename_i h30 h300
        refine madeL_ok l (i + 1) (out ++ [madeStep out x]) (by omega) (by simp; omega) (fun p hp => ?_)
        rcases List.mem_append.1 hp with hp | hp
        · exact (h p hp).next
        · rcases List.mem_singleton.1 hp with rfl
          exact madeStep_ok h x (by omega)
theorem cv_rowsG {g g' : Gh} (x : Ext g g') {xs ys : List (List AV)} {f : Bool} (hl : xs.length = ys.length)
    (h : ∀ (i : Nat) (u v : List AV), xs[i]? = some u → ys[i]? = some v → u.length = v.length ∧ ∀ (j : Nat) (a b : AV), u[j]? = some a → v[j]? = some b → Cv g g' a b) : Cv g g' (.vec xs f) (.vec ys f) := fun v hv => by
  have back : ∀ (i : Nat) (y : List AV), ys[i]? = some y → ∃ z, xs[i]? = some z := fun i y e => by
    have := (List.getElem?_eq_some_iff.1 e).1
    exact ⟨xs[i]'(by omega), List.getElem?_eq_getElem (by omega)⟩
  cases hv with
  | vecN => cases ys with
    | nil => exact .vecN
    | cons => simp at hl
  | vecE k => cases ys with
    | nil => exact .vecE k
    | cons => simp at hl
  | @vec b0 off cap s0 _ _ fn h1 h2 h3 h4 h5 =>
    rw [hl]
    refine .vec (s := s0) fn (fun y hy => ?_) (fun e => by rw [← hl]; exact h2 e) (by rw [← hl]; exact h3) (fun i y j c e1 e2 => ?_) (fun i y j c e1 e2 => ?_)
    · obtain ⟨i, hi⟩ := List.getElem?_of_mem hy
      obtain ⟨z, hz⟩ := back i y hi
      rw [← (h i z y hz hi).1]
      exact h1 z (List.mem_of_getElem? hz)
    · obtain ⟨z, hz⟩ := back i y e1
      have hj : j < z.length := by rw [(h i z y hz e1).1]; exact (List.getElem?_eq_some_iff.1 e2).1
      exact x.mem _ _ _ (h4 i z j _ hz (List.getElem?_eq_getElem hj))
    · obtain ⟨z, hz⟩ := back i y e1
      have hj : j < z.length := by rw [(h i z y hz e1).1]; exact (List.getElem?_eq_some_iff.1 e2).1
      exact (h i z y hz e1).2 j _ c (List.getElem?_eq_getElem hj) e2 _ (h5 i z j _ hz (List.getElem?_eq_getElem hj))
theorem cv_two {g g' : Gh} (x : Ext g g') {a b a' b' c d : AV} {f : Bool} (h1 : Cv g g' a a') (h2 : Cv g g' b b') : Cv g g' (.vec [[c, a], [d, b]] f) (.vec [[c, a'], [d, b']] f) :=
  cv_rowsG x rfl fun i u v e1 e2 => by
    match i, e1, e2 with
    | 0, e1, e2 =>
      simp only [List.getElem?_cons_zero, Option.some.injEq] at e1 e2
      subst e1; subst e2
      refine ⟨rfl, fun j p q k1 k2 => ?_⟩
      match j, k1, k2 with
      | 0, k1, k2 => simp only [List.getElem?_cons_zero, Option.some.injEq] at k1 k2; subst k1; subst k2; exact cv_refl x _
      | 1, k1, k2 => simp only [List.getElem?_cons_succ, List.getElem?_cons_zero, Option.some.injEq] at k1 k2; subst k1; subst k2; exact h1
      | j + 2, k1, k2 => simp at k1
    | 1, e1, e2 =>
      simp only [List.getElem?_cons_succ, List.getElem?_cons_zero, Option.some.injEq] at e1 e2
      subst e1; subst e2
      refine ⟨rfl, fun j p q k1 k2 => ?_⟩
      match j, k1, k2 with
      | 0, k1, k2 => simp only [List.getElem?_cons_zero, Option.some.injEq] at k1 k2; subst k1; subst k2; exact cv_refl x _
      | 1, k1, k2 => simp only [List.getElem?_cons_succ, List.getElem?_cons_zero, Option.some.injEq] at k1 k2; subst k1; subst k2; exact h2
      | j + 2, k1, k2 => simp at k1
    | i + 2, e1, e2 => simp at e1
theorem gp_encPr (p : Pr) : ∀ c ∈ encPr p, GP c := allc (gp_encO _) (allc (.of_pure (.vec (pure_rows pureR _))) alln)
theorem encPr_take (p : Pr) : (encPr p).take 2 = encPr p := rfl
theorem encPr_length (p : Pr) : (encPr p).length = 2 := rfl
end Go.Proofs.Ytfnmdmadaljjkaa
end

section
namespace Go.Proofs.Ytfnmdmadaljjkaa
open Go.Ab
set_option linter.unusedSimpArgs false
set_option linter.unusedVariables false
set_option maxRecDepth 20000
set_option maxHeartbeats 4000000

def pgA (rows : List Pr) : AV := if rows.length = 2 then .vec (rows.map encPr) true else .own 0 rows.length
def pgT (rows : List Pr) : List (Nat × Tk) := if rows.length = 2 then [] else [(0, ⟨rows.map encPr, 0, 2⟩)]
def pgN (rows : List Pr) : Nat := if rows.length = 2 then 0 else 1
def mdS (l : List Ac) (i : Nat) (rows : List Pr) : St :=
  ⟨[(18, .lit (.int .i64 (i : Int))), (17, .lit (.int .i64 (l.length : Int))), (16, .vec (l.map encAc) false), (3, pgA rows)], ⟨[], pgT rows, pgN rows⟩, 114⟩
structure MdI (l : List Ac) (i : Nat) (rows : List Pr) : Prop where
  eq : madeL 0 made0 l = madeL i rows (l.drop i)
  lt : i ≤ 30
  len : rows.length = i + 2
  ok : ∀ p ∈ rows, PrOk i p
theorem rows2 (rows : List Pr) : ∀ q ∈ rows.map encPr, q.length = 2 := fun q hq => by obtain ⟨v, _, rfl⟩ := List.mem_map.1 hq; rfl
theorem gp_rowsPr (rows : List Pr) : ∀ x ∈ rows.map encPr, ∀ c ∈ x, GP c := fun x hx => by obtain ⟨p, _, rfl⟩ := List.mem_map.1 hx; exact gp_encPr p
theorem rnR_gp {ρ : Nat → Nat} {n : Nat} : ∀ {xs : List (List AV)}, (∀ x ∈ xs, ∀ c ∈ x, GP c) → RnR ρ n xs xs
  | [], _ => .nil
  | x :: xs, h => .cons (GP.rnL (h x (by simp))) rfl (rnR_gp fun y hy => h y (by simp [hy]))
theorem kexpo_pg {h : Hp} {rows : List Pr} (ht : rows.length ≠ 2 → lk h.toks 0 = some ⟨rows.map encPr, 0, 2⟩) : KExpo h (pgA rows) (.vec (rows.map encPr) false) := by
  unfold pgA
  by_cases h2 : rows.length = 2
  · rw [if_pos h2]
    refine KExpo.wk (h' := ⟨[], [], h.nx⟩) (r' := .vec (rows.map encPr) false) (St.wk_conv rfl rfl (fun g g' x p hp => ?_) (fun g g' x p hp => by cases hp) (fun g p hp => by cases hp)) (kexpo (.vec (gp_rowsPr rows)))
    rcases List.mem_singleton.1 hp with rfl
    exact ⟨_, rfl, cv_full x _ _⟩
  · rw [if_neg h2]
    refine KExpo.wk (h' := ⟨[], [], h.nx⟩) (r' := .vec (rows.map encPr) false) (St.wk_freeze (ht h2) rfl rfl (fun g g' x c p hp => ?_) (fun g g' x c p hp => by cases hp) (fun g p hp => by cases hp)) (kexpo (.vec (gp_rowsPr rows)))
    rcases List.mem_singleton.1 hp with rfl
    exact ⟨_, rfl, by simpa using c⟩
theorem md_fin {σ : St} {l : List Ac} {i : Nat} {rows : List Pr} {y : Pr} {fl : Bool} {t : Nat} (hn : rows.length = i + 2) (hnt : σ.nt = 114) (h18 : lk σ.slots 18 = some (.lit (.int .i64 ((i + 1 : Nat) : Int)))) (h17 : lk σ.slots 17 = some (.lit (.int .i64 (l.length : Int)))) (h16 : lk σ.slots 16 = some (.vec (l.map encAc) false))
    (h3 : lk σ.slots 3 = some (.own t (rows.length + 1))) (ht : lk σ.hp.toks t = some ⟨rows.map encPr ++ [[encO y.1, .vec (y.2.map encR) fl]], 0, 2⟩) (hlt : t < σ.hp.nx) : St.cp 0 σ (mdS l (i + 1) (rows ++ [y])) := by
  have e : mdS l (i + 1) (rows ++ [y]) = ⟨[(18, .lit (.int .i64 ((i + 1 : Nat) : Int))), (17, .lit (.int .i64 (l.length : Int))), (16, .vec (l.map encAc) false), (3, .own 0 (rows.length + 1))], ⟨[], [(0, ⟨(rows ++ [y]).map encPr, 0, 2⟩)], 1⟩, 114⟩ := by
    have h : ¬ (rows ++ [y]).length = 2 := by simp; omega
    unfold mdS pgA pgT pgN
    rw [if_neg h, if_neg h, if_neg h]
    simp
  rw [e]
  refine St.cp.trans (St.wk.cp (St.wk_conv (σ' := ⟨[(18, .lit (.int .i64 ((i + 1 : Nat) : Int))), (17, .lit (.int .i64 (l.length : Int))), (16, .vec (l.map encAc) false), (3, .own t (rows.length + 1))], ⟨[], [(t, ⟨(rows ++ [y]).map encPr, 0, 2⟩)], σ.hp.nx⟩, 114⟩) rfl hnt.symm
    (fun g g' x => allc ⟨_, h18, cv_refl x _⟩ (allc ⟨_, h17, cv_refl x _⟩ (allc ⟨_, h16, cv_refl x _⟩ (allc ⟨_, h3, cv_refl x _⟩ alln)))) (fun g g' x p hp => by cases hp) (fun g => allc ⟨_, ht, ⟨rfl, rfl, ?_⟩⟩ alln))) ?_
  · show CvR g g (rows.map encPr ++ [[encO y.1, .vec (y.2.map encR) fl]]) ((rows ++ [y]).map encPr)
    rw [List.map_append]
    exact CvR.snoc (CvR.refl (.refl g) _) (cvL_cons (cv_refl (.refl g) _) (cvL_cons (cv_full (.refl g) _ _) cvL_nil)) rfl
  · refine St.cp_of 0 [t] (Nat.zero_le _) rfl rfl (by simp) (by simpa using hlt) (allc ⟨_, rfl, .pure (.lit _)⟩ (allc ⟨_, rfl, .pure (.lit _)⟩ (allc ⟨_, rfl, .pure (.vec (pure_rows pure_encAc l))⟩ (allc ⟨_, rfl, .own (by show 0 < 1; decide) rfl⟩ alln)))) alln
      (allc ⟨by show 0 < 1; decide, _, by simp [lk, cpn], rfl, rfl, rnR_gp (gp_rowsPr _)⟩ alln)
theorem madeL_stop {i : Nat} {rows : List Pr} {x : Ac} {l : List Ac} (h : 30 ≤ i ∨ (madeStep rows x).2.length > 300) : madeL i rows (x :: l) = rows := by
  simp only [madeL]
  split
  · rfl
  · split
    · rfl
    · omega
theorem madeL_go {i : Nat} {rows : List Pr} {x : Ac} {l : List Ac} (h : i < 30) (k : (madeStep rows x).2.length ≤ 300) : madeL i rows (x :: l) = madeL (i + 1) (rows ++ [madeStep rows x]) l := by
  simp only [madeL]
  rw [if_neg (by omega), if_neg (by omega)]
theorem made_spec (l : List Ac) : KCall Try.prog 6 [.vec (l.map encAc) false] (.vec ((madeL 0 made0 l).map encPr) false) := by
  refine KCall_of (SCall_intro Try.func6 rfl Try.ntmps6 (rs := [.tmp 2]) rfl (by simp) ?_)
  simp -implicitDefEqProofs only [awl, ne_eq, srcRows, awo, aggEq, eqF, litEq, andO, qwl, qwo, Go.Ab.qOp, lop, oneK, stepOp, pairO, pureOp, heapOp, entry, slotsOf, ev, evL, evP, evO, lk, up, St.put, St.drop, constAV, cellAV, cellsAV, plain, binV, nilCmp, intBin, strBin, guardBit, boolOf, fnOf, intOfAV, bound, resOf, retV, moved, rowOf, valAt, Kd.agg, AV.cells, splice, places, fillAV, rowsFill, Hp.none, ↓reduceIte, reduceCtorEq, Nat.reduceLT, Nat.reduceEqDiff, Nat.reduceAdd, Nat.reduceLeDiff, Nat.reducePow, Nat.reduceMul, Yzz, Xzz, Yzy, tyW]
  refine CallK_k call21 None_spec alln (gp_encB none) ?_
  simp -implicitDefEqProofs only [awl, ne_eq, srcRows, awo, aggEq, eqF, litEq, andO, qwl, qwo, Go.Ab.qOp, lop, oneK, stepOp, pairO, pureOp, heapOp, entry, slotsOf, ev, evL, evP, evO, lk, up, St.put, St.drop, constAV, cellAV, cellsAV, plain, binV, nilCmp, intBin, strBin, guardBit, boolOf, fnOf, intOfAV, bound, resOf, retV, moved, rowOf, valAt, Kd.agg, AV.cells, splice, places, fillAV, rowsFill, Hp.none, ↓reduceIte, reduceCtorEq, Nat.reduceLT, Nat.reduceEqDiff, Nat.reduceAdd, Nat.reduceLeDiff, Nat.reducePow, Nat.reduceMul, Yzz, Xzz, Yzy, tyW]
  refine CallK_k call24 Empty_spec alln (gp_encB emptyO) ?_
  simp -implicitDefEqProofs only [awl, ne_eq, srcRows, awo, aggEq, eqF, litEq, andO, qwl, qwo, Go.Ab.qOp, lop, oneK, stepOp, pairO, pureOp, heapOp, entry, slotsOf, ev, evL, evP, evO, lk, up, St.put, St.drop, constAV, cellAV, cellsAV, plain, binV, nilCmp, intBin, strBin, guardBit, boolOf, fnOf, intOfAV, bound, resOf, retV, moved, rowOf, valAt, Kd.agg, AV.cells, splice, places, fillAV, rowsFill, Hp.none, ↓reduceIte, reduceCtorEq, Nat.reduceLT, Nat.reduceEqDiff, Nat.reduceAdd, Nat.reduceLeDiff, Nat.reducePow, Nat.reduceMul, Yzz, Xzz, Yzy, tyW]
  refine CallK_pure call25 Empty_r alln (pureBr _) ?_
  simp -implicitDefEqProofs only [awl, ne_eq, srcRows, awo, aggEq, eqF, litEq, andO, qwl, qwo, Go.Ab.qOp, lop, oneK, stepOp, pairO, pureOp, heapOp, entry, slotsOf, ev, evL, evP, evO, lk, up, St.put, St.drop, constAV, cellAV, cellsAV, plain, binV, nilCmp, intBin, strBin, guardBit, boolOf, fnOf, intOfAV, bound, resOf, retV, moved, rowOf, valAt, Kd.agg, AV.cells, splice, places, fillAV, rowsFill, Hp.none, ↓reduceIte, reduceCtorEq, Nat.reduceLT, Nat.reduceEqDiff, Nat.reduceAdd, Nat.reduceLeDiff, Nat.reducePow, Nat.reduceMul, Yzz, Xzz, Yzy, tyW, encB, encBr, List.length_map]
  refine aw_forE l.length 0 (mdS l) (MdI l) (Nat.le_refl _) made0 ?_ ⟨rfl, by decide, rfl, made0_ok⟩ (fun i rows hlt hI => ?_) (fun rows hI => ?_)
  · refine St.wk.cp (St.wk_conv rfl rfl (fun g g' x => allc ⟨_, rfl, cv_refl x _⟩ (allc ⟨_, rfl, cv_refl x _⟩ (allc ⟨_, rfl, cv_refl x _⟩ (allc ⟨_, rfl, ?_⟩ alln)))) (fun g g' x p hp => by cases hp) (fun g p hp => by cases hp))
    exact cv_two x (cv_full x _ _) (cv_refl x _)
  · obtain ⟨he, h30, hn, hok⟩ := hI
    obtain ⟨x, hx⟩ : ∃ x, l[i]? = some x := ⟨_, List.getElem?_eq_getElem hlt⟩
    have gx := map_getD encAc hx
    have ex : encAc x = [.lit (.int .i64 x.kind), .lit (.int .i64 x.a), .lit (.int .i64 x.b), .lit (.int .i64 x.f.1), .lit (.int .i64 x.f.2), .vec (x.l.map encP) false] := rfl
    have dx : l.drop i = x :: l.drop (i + 1) := by rw [List.drop_eq_getElem_cons hlt, (List.getElem?_eq_some_iff.1 hx).2]
    have i1 : (i : Int) < (l.length : Int) := by omega
    have ncast : ∀ n : Nat, (0 : Int) ≤ (n : Int) := Int.natCast_nonneg
    rw [ex] at gx
    rw [dx] at he
    have a0 : 0 ≤ x.a.emod (rows.length : Int) := Int.emod_nonneg _ (by omega)
    have a1 : x.a.emod (rows.length : Int) < (rows.length : Int) := Int.emod_lt_of_pos _ (by omega)
    have b0 : 0 ≤ x.b.emod (rows.length : Int) := Int.emod_nonneg _ (by omega)
    have b1 : x.b.emod (rows.length : Int) < (rows.length : Int) := Int.emod_lt_of_pos _ (by omega)
    obtain ⟨p, hp⟩ : ∃ p, rows[(x.a.emod (rows.length : Int)).toNat]? = some p := ⟨_, List.getElem?_eq_getElem (by omega)⟩
    obtain ⟨q, hq⟩ : ∃ q, rows[(x.b.emod (rows.length : Int)).toNat]? = some q := ⟨_, List.getElem?_eq_getElem (by omega)⟩
    have gp := map_getD encPr hp
    have gq := map_getD encPr hq
    have okp := hok p (List.mem_of_getElem? hp)
    have okq := hok q (List.mem_of_getElem? hq)
    have stp : rows.getD (bring x.a rows.length) (none, []) = p := by rw [List.getD_eq_getElem?_getD]; unfold bring; rw [hp]; rfl
    have stq : rows.getD (bring x.b rows.length) (none, []) = q := by rw [List.getD_eq_getElem?_getD]; unfold bring; rw [hq]; rfl
    have ep : ∀ p, encPr p = [encO p.1, .vec (p.2.map encR) false] := fun _ => rfl
    have pw : 2 ^ i / 2 ≤ 536870912 := by
      have : (2 : Nat) ^ i ≤ 2 ^ 30 := Nat.pow_le_pow_right (by decide) h30
      omega
    have gp' : (rows.map encPr)[(x.a.emod (rows.length : Int)).toNat]? = some (encPr p) := by rw [List.getElem?_map, hp]; rfl
    have gq' : (rows.map encPr)[(x.b.emod (rows.length : Int)).toNat]? = some (encPr q) := by rw [List.getElem?_map, hq]; rfl
    rw [ep] at gp gq gp' gq'
    have hfitp : fits (rows.length + 1) 32 := fits_of' (by omega) (by omega)
    have okall : ∀ {y : Pr}, PrOk (i + 1) y → ∀ p ∈ rows ++ [y], PrOk (i + 1) p := fun {y} h p hp => by
      rcases List.mem_append.1 hp with hp | hp
      · exact (hok p hp).next
      · rcases List.mem_singleton.1 hp with rfl; exact h
    have bc := brought_spec x.a (rows.length : Int) (by omega) (by omega)
    have bd := brought_spec x.b (rows.length : Int) (by omega) (by omega)
    by_cases h0 : rows.length = 2
    · skip
      by_cases h30' : 30 ≤ i
      · have n30 : ((i : Int) ≥ 30) = True := by simp; omega
        have fin := kexpo_pg (h := ⟨[(0, encAc x)], [], 1⟩) (rows := rows) (fun _ => by first | rfl | exact absurd h0 (by assumption))
        rw [he, madeL_stop (.inl h30')]
        simp -implicitDefEqProofs only [awl, ne_eq, srcRows, awo, aggEq, eqF, litEq, andO, qwl, qwo, Go.Ab.qOp, lop, oneK, stepOp, pairO, pureOp, heapOp, entry, slotsOf, ev, evL, evP, evO, lk, up, St.put, St.drop, constAV, cellAV, cellsAV, plain, binV, nilCmp, intBin, strBin, guardBit, boolOf, fnOf, intOfAV, bound, resOf, retV, moved, rowOf, valAt, Kd.agg, AV.cells, splice, places, fillAV, rowsFill, Hp.none, ↓reduceIte, reduceCtorEq, Nat.reduceLT, Nat.reduceEqDiff, Nat.reduceAdd, Nat.reduceLeDiff, Nat.reducePow, Nat.reduceMul, Yzz, Xzz, Yzy, tyW, mdS, pgA, pgT, pgN, if_pos h0, List.length_map, i1, decide_true, ncast, Int.toNat_natCast, gx, decide_false, n30]
        rw [pgA, if_pos h0] at fin
        exact fin
      have n30 : ((i : Int) ≥ 30) = False := by simp; omega
      simp -implicitDefEqProofs only [awl, ne_eq, srcRows, awo, aggEq, eqF, litEq, andO, qwl, qwo, Go.Ab.qOp, lop, oneK, stepOp, pairO, pureOp, heapOp, entry, slotsOf, ev, evL, evP, evO, lk, up, St.put, St.drop, constAV, cellAV, cellsAV, plain, binV, nilCmp, intBin, strBin, guardBit, boolOf, fnOf, intOfAV, bound, resOf, retV, moved, rowOf, valAt, Kd.agg, AV.cells, splice, places, fillAV, rowsFill, Hp.none, ↓reduceIte, reduceCtorEq, Nat.reduceLT, Nat.reduceEqDiff, Nat.reduceAdd, Nat.reduceLeDiff, Nat.reducePow, Nat.reduceMul, Yzz, Xzz, Yzy, tyW, mdS, pgA, pgT, pgN, if_pos h0, List.length_map, i1, decide_true, ncast, Int.toNat_natCast, gx, decide_false, n30]
      refine aw_let2 (n := 114) (σ' := ⟨[(18, .lit (.int .i64 (i : Int))), (17, .lit (.int .i64 (l.length : Int))), (16, .vec (l.map encAc) false), (3, .vec (rows.map encPr) true), (5, .ptr 0 0), (6, .ptr 1 0), (7, .ptr 2 0)], ⟨[(0, encAc x), (1, encPr p), (2, encPr q)], [], 3⟩, 114⟩) 3 16 18 6 33 17 19 7 33 rfl rfl rfl rfl rfl rfl rfl rfl rfl (by decide) (by decide) mixed ?_ ?_
      · simp -implicitDefEqProofs only [awl, ne_eq, srcRows, awo, aggEq, eqF, litEq, andO, qwl, qwo, Go.Ab.qOp, lop, oneK, stepOp, pairO, pureOp, heapOp, entry, slotsOf, ev, evL, evP, evO, lk, up, St.put, St.drop, constAV, cellAV, cellsAV, plain, binV, nilCmp, intBin, strBin, guardBit, boolOf, fnOf, intOfAV, bound, resOf, retV, moved, rowOf, valAt, Kd.agg, AV.cells, splice, places, fillAV, rowsFill, Hp.none, ↓reduceIte, reduceCtorEq, Nat.reduceLT, Nat.reduceEqDiff, Nat.reduceAdd, Nat.reduceLeDiff, Nat.reducePow, Nat.reduceMul, Yzz, Xzz, Yzy, tyW, lop, List.length_map, decide_true, decide_false, ncast, Int.toNat_natCast, a0, a1, b0, b1, gp, gq, gp', gq']
        refine CallQ_pure call19 bc (allc (.lit _) (allc (.lit _) alln)) (.lit _) ?_
        simp -implicitDefEqProofs only [awl, ne_eq, srcRows, awo, aggEq, eqF, litEq, andO, qwl, qwo, Go.Ab.qOp, lop, oneK, stepOp, pairO, pureOp, heapOp, entry, slotsOf, ev, evL, evP, evO, lk, up, St.put, St.drop, constAV, cellAV, cellsAV, plain, binV, nilCmp, intBin, strBin, guardBit, boolOf, fnOf, intOfAV, bound, resOf, retV, moved, rowOf, valAt, Kd.agg, AV.cells, splice, places, fillAV, rowsFill, Hp.none, ↓reduceIte, reduceCtorEq, Nat.reduceLT, Nat.reduceEqDiff, Nat.reduceAdd, Nat.reduceLeDiff, Nat.reducePow, Nat.reduceMul, Yzz, Xzz, Yzy, tyW, lop, List.length_map, decide_true, decide_false, ncast, Int.toNat_natCast, a0, a1, b0, b1, gp, gq, gp', gq']
        refine CallQ_pure call19 bd (allc (.lit _) (allc (.lit _) alln)) (.lit _) ?_
        simp -implicitDefEqProofs only [awl, ne_eq, srcRows, awo, aggEq, eqF, litEq, andO, qwl, qwo, Go.Ab.qOp, lop, oneK, stepOp, pairO, pureOp, heapOp, entry, slotsOf, ev, evL, evP, evO, lk, up, St.put, St.drop, constAV, cellAV, cellsAV, plain, binV, nilCmp, intBin, strBin, guardBit, boolOf, fnOf, intOfAV, bound, resOf, retV, moved, rowOf, valAt, Kd.agg, AV.cells, splice, places, fillAV, rowsFill, Hp.none, ↓reduceIte, reduceCtorEq, Nat.reduceLT, Nat.reduceEqDiff, Nat.reduceAdd, Nat.reduceLeDiff, Nat.reducePow, Nat.reduceMul, Yzz, Xzz, Yzy, tyW, lop, List.length_map, decide_true, decide_false, ncast, Int.toNat_natCast, a0, a1, b0, b1, gp, gq, gp', gq']
        exact ⟨rfl, rfl, St.wk.cp (St.wk_slots1 (by simp [lk]) (by simp [lk, encAc, encPr]) (fun t => rfl))⟩
      simp -implicitDefEqProofs only [awl, ne_eq, srcRows, awo, aggEq, eqF, litEq, andO, qwl, qwo, Go.Ab.qOp, lop, oneK, stepOp, pairO, pureOp, heapOp, entry, slotsOf, ev, evL, evP, evO, lk, up, St.put, St.drop, constAV, cellAV, cellsAV, plain, binV, nilCmp, intBin, strBin, guardBit, boolOf, fnOf, intOfAV, bound, resOf, retV, moved, rowOf, valAt, Kd.agg, AV.cells, splice, places, fillAV, rowsFill, Hp.none, ↓reduceIte, reduceCtorEq, Nat.reduceLT, Nat.reduceEqDiff, Nat.reduceAdd, Nat.reduceLeDiff, Nat.reducePow, Nat.reduceMul, Yzz, Xzz, Yzy, tyW, ex, ep]
      refine CallK_k call21 None_spec alln (gp_encB none) ?_
      simp -implicitDefEqProofs only [awl, ne_eq, srcRows, awo, aggEq, eqF, litEq, andO, qwl, qwo, Go.Ab.qOp, lop, oneK, stepOp, pairO, pureOp, heapOp, entry, slotsOf, ev, evL, evP, evO, lk, up, St.put, St.drop, constAV, cellAV, cellsAV, plain, binV, nilCmp, intBin, strBin, guardBit, boolOf, fnOf, intOfAV, bound, resOf, retV, moved, rowOf, valAt, Kd.agg, AV.cells, splice, places, fillAV, rowsFill, Hp.none, ↓reduceIte, reduceCtorEq, Nat.reduceLT, Nat.reduceEqDiff, Nat.reduceAdd, Nat.reduceLeDiff, Nat.reducePow, Nat.reduceMul, Yzz, Xzz, Yzy, tyW, encB]
      by_cases k0 : x.kind = 0
      · have e0 : (x.kind == 0) = true := by simpa using k0
        by_cases hx8' : x.l.length ≤ 8
        · have l8 : ((x.l.length : Int) ≤ 8) = True := by simp; omega
          simp -implicitDefEqProofs only [awl, ne_eq, srcRows, awo, aggEq, eqF, litEq, andO, qwl, qwo, Go.Ab.qOp, lop, oneK, stepOp, pairO, pureOp, heapOp, entry, slotsOf, ev, evL, evP, evO, lk, up, St.put, St.drop, constAV, cellAV, cellsAV, plain, binV, nilCmp, intBin, strBin, guardBit, boolOf, fnOf, intOfAV, bound, resOf, retV, moved, rowOf, valAt, Kd.agg, AV.cells, splice, places, fillAV, rowsFill, Hp.none, ↓reduceIte, reduceCtorEq, Nat.reduceLT, Nat.reduceEqDiff, Nat.reduceAdd, Nat.reduceLeDiff, Nat.reducePow, Nat.reduceMul, Yzz, Xzz, Yzy, tyW, e0, l8, decide_true, List.length_map]
          refine aw_drawC (n := 114) (σ' := ⟨[(18, .lit (.int .i64 (i : Int))), (17, .lit (.int .i64 (l.length : Int))), (16, .vec (l.map encAc) false), (3, .vec (rows.map encPr) true), (8, .ptr 3 0)], ⟨[(3, encPr (ofO x.l, [x.l]))], [], 4⟩, 114⟩) 4 7 (.alt 7 .leaf .nil) rfl (by decide) (by decide) mixed (by kernel_rfl) (by decide) ?_ ?_
          · simp -implicitDefEqProofs only [awl, ne_eq, srcRows, awo, aggEq, eqF, litEq, andO, qwl, qwo, Go.Ab.qOp, lop, oneK, stepOp, pairO, pureOp, heapOp, entry, slotsOf, ev, evL, evP, evO, lk, up, St.put, St.drop, constAV, cellAV, cellsAV, plain, binV, nilCmp, intBin, strBin, guardBit, boolOf, fnOf, intOfAV, bound, resOf, retV, moved, rowOf, valAt, Kd.agg, AV.cells, splice, places, fillAV, rowsFill, Hp.none, ↓reduceIte, reduceCtorEq, Nat.reduceLT, Nat.reduceEqDiff, Nat.reduceAdd, Nat.reduceLeDiff, Nat.reducePow, Nat.reduceMul, Yzz, Xzz, Yzy, tyW]
            refine CallQ_k call26 (Of_spec x.l (Nat.le_trans hx8' (by decide))) (allc (.of_pure (pureS x.l)) alln) (gp_encB _) ?_
            simp -implicitDefEqProofs only [awl, ne_eq, srcRows, awo, aggEq, eqF, litEq, andO, qwl, qwo, Go.Ab.qOp, lop, oneK, stepOp, pairO, pureOp, heapOp, entry, slotsOf, ev, evL, evP, evO, lk, up, St.put, St.drop, constAV, cellAV, cellsAV, plain, binV, nilCmp, intBin, strBin, guardBit, boolOf, fnOf, intOfAV, bound, resOf, retV, moved, rowOf, valAt, Kd.agg, AV.cells, splice, places, fillAV, rowsFill, Hp.none, ↓reduceIte, reduceCtorEq, Nat.reduceLT, Nat.reduceEqDiff, Nat.reduceAdd, Nat.reduceLeDiff, Nat.reducePow, Nat.reduceMul, Yzz, Xzz, Yzy, tyW]
            refine CallQ_pure call27 (Of_r x.l (Nat.le_trans hx8' (by decide))) (allc (pureS x.l) alln) (pureBr _) ?_
            simp -implicitDefEqProofs only [awl, ne_eq, srcRows, awo, aggEq, eqF, litEq, andO, qwl, qwo, Go.Ab.qOp, lop, oneK, stepOp, pairO, pureOp, heapOp, entry, slotsOf, ev, evL, evP, evO, lk, up, St.put, St.drop, constAV, cellAV, cellsAV, plain, binV, nilCmp, intBin, strBin, guardBit, boolOf, fnOf, intOfAV, bound, resOf, retV, moved, rowOf, valAt, Kd.agg, AV.cells, splice, places, fillAV, rowsFill, Hp.none, ↓reduceIte, reduceCtorEq, Nat.reduceLT, Nat.reduceEqDiff, Nat.reduceAdd, Nat.reduceLeDiff, Nat.reducePow, Nat.reduceMul, Yzz, Xzz, Yzy, tyW, encB, encBr]
            exact St.wk.cp (St.wk_slots1 (by simp [lk]) (by simp [lk, encPr]) (fun t => rfl))
          · simp -implicitDefEqProofs only [awl, ne_eq, srcRows, awo, aggEq, eqF, litEq, andO, qwl, qwo, Go.Ab.qOp, lop, oneK, stepOp, pairO, pureOp, heapOp, entry, slotsOf, ev, evL, evP, evO, lk, up, St.put, St.drop, constAV, cellAV, cellsAV, plain, binV, nilCmp, intBin, strBin, guardBit, boolOf, fnOf, intOfAV, bound, resOf, retV, moved, rowOf, valAt, Kd.agg, AV.cells, splice, places, fillAV, rowsFill, Hp.none, ↓reduceIte, reduceCtorEq, Nat.reduceLT, Nat.reduceEqDiff, Nat.reduceAdd, Nat.reduceLeDiff, Nat.reducePow, Nat.reduceMul, Yzz, Xzz, Yzy, tyW, ep]
            have sm : madeStep rows x = ((ofO x.l, [x.l]) : Pr) := by unfold madeStep; simp only [stp, stq, if_pos k0, if_pos hx8']
            have L1 : (((1 : Nat) : Int) > 300) = False := by simp
            have hL : ¬ ([x.l] : List Sk).length > 300 := by simp
            have okn := madeStep_ok hok x (by rw [sm]; exact Nat.le_of_not_lt hL)
            rw [madeL_go (by omega) (by rw [sm]; exact Nat.le_of_not_lt hL)] at he
            rw [sm] at okn he
            simp -implicitDefEqProofs (disch := omega) only [awl, ne_eq, srcRows, awo, aggEq, eqF, litEq, andO, qwl, qwo, Go.Ab.qOp, lop, oneK, stepOp, pairO, pureOp, heapOp, entry, slotsOf, ev, evL, evP, evO, lk, up, St.put, St.drop, constAV, cellAV, cellsAV, plain, binV, nilCmp, intBin, strBin, guardBit, boolOf, fnOf, intOfAV, bound, resOf, retV, moved, rowOf, valAt, Kd.agg, AV.cells, splice, places, fillAV, rowsFill, Hp.none, ↓reduceIte, reduceCtorEq, Nat.reduceLT, Nat.reduceEqDiff, Nat.reduceAdd, Nat.reduceLeDiff, Nat.reducePow, Nat.reduceMul, Yzz, Xzz, Yzy, tyW, L1, decide_false, List.length_map, List.mem_singleton, forall_eq, eq_true (rows2 rows), hfitp, and_self, if_true, List.length_cons, List.length_nil, Nat.zero_add, Nat.reduceAdd, i64w]
            exact ⟨rows ++ [((ofO x.l, [x.l]) : Pr)], ⟨he, by omega, by simp [hn], okall okn⟩, md_fin hn rfl rfl rfl rfl rfl rfl (by show 4 < 5; decide)⟩
        · have l8 : ((x.l.length : Int) ≤ 8) = False := by simp; omega
          simp -implicitDefEqProofs only [awl, ne_eq, srcRows, awo, aggEq, eqF, litEq, andO, qwl, qwo, Go.Ab.qOp, lop, oneK, stepOp, pairO, pureOp, heapOp, entry, slotsOf, ev, evL, evP, evO, lk, up, St.put, St.drop, constAV, cellAV, cellsAV, plain, binV, nilCmp, intBin, strBin, guardBit, boolOf, fnOf, intOfAV, bound, resOf, retV, moved, rowOf, valAt, Kd.agg, AV.cells, splice, places, fillAV, rowsFill, Hp.none, ↓reduceIte, reduceCtorEq, Nat.reduceLT, Nat.reduceEqDiff, Nat.reduceAdd, Nat.reduceLeDiff, Nat.reducePow, Nat.reduceMul, Yzz, Xzz, Yzy, tyW, e0, l8, decide_false, List.length_map]
          have sm : madeStep rows x = ((none, []) : Pr) := by unfold madeStep; simp only [stp, stq, if_pos k0, if_neg hx8']
          have L1 : (((0 : Nat) : Int) > 300) = False := by simp
          have hL : ¬ ([] : List Sk).length > 300 := by simp
          have okn := madeStep_ok hok x (by rw [sm]; exact Nat.le_of_not_lt hL)
          rw [madeL_go (by omega) (by rw [sm]; exact Nat.le_of_not_lt hL)] at he
          rw [sm] at okn he
          simp -implicitDefEqProofs (disch := omega) only [awl, ne_eq, srcRows, awo, aggEq, eqF, litEq, andO, qwl, qwo, Go.Ab.qOp, lop, oneK, stepOp, pairO, pureOp, heapOp, entry, slotsOf, ev, evL, evP, evO, lk, up, St.put, St.drop, constAV, cellAV, cellsAV, plain, binV, nilCmp, intBin, strBin, guardBit, boolOf, fnOf, intOfAV, bound, resOf, retV, moved, rowOf, valAt, Kd.agg, AV.cells, splice, places, fillAV, rowsFill, Hp.none, ↓reduceIte, reduceCtorEq, Nat.reduceLT, Nat.reduceEqDiff, Nat.reduceAdd, Nat.reduceLeDiff, Nat.reducePow, Nat.reduceMul, Yzz, Xzz, Yzy, tyW, L1, decide_false, List.length_map, List.mem_singleton, forall_eq, eq_true (rows2 rows), hfitp, and_self, if_true, List.length_cons, List.length_nil, Nat.zero_add, Nat.reduceAdd, i64w]
          exact ⟨rows ++ [((none, []) : Pr)], ⟨he, by omega, by simp [hn], okall okn⟩, md_fin hn rfl rfl rfl rfl rfl rfl (by show 4 < 5; decide)⟩
      · have e0 : (x.kind == 0) = false := by simpa using k0
        by_cases k1 : x.kind = 1
        · have e1 : (x.kind == 1) = true := by simpa using k1
          simp -implicitDefEqProofs only [awl, ne_eq, srcRows, awo, aggEq, eqF, litEq, andO, qwl, qwo, Go.Ab.qOp, lop, oneK, stepOp, pairO, pureOp, heapOp, entry, slotsOf, ev, evL, evP, evO, lk, up, St.put, St.drop, constAV, cellAV, cellsAV, plain, binV, nilCmp, intBin, strBin, guardBit, boolOf, fnOf, intOfAV, bound, resOf, retV, moved, rowOf, valAt, Kd.agg, AV.cells, splice, places, fillAV, rowsFill, Hp.none, ↓reduceIte, reduceCtorEq, Nat.reduceLT, Nat.reduceEqDiff, Nat.reduceAdd, Nat.reduceLeDiff, Nat.reducePow, Nat.reduceMul, Yzz, Xzz, Yzy, tyW, e0, e1]
          refine aw_drawC (n := 114) (σ' := ⟨[(18, .lit (.int .i64 (i : Int))), (17, .lit (.int .i64 (l.length : Int))), (16, .vec (l.map encAc) false), (3, .vec (rows.map encPr) true), (8, .ptr 3 0)], ⟨[(3, encPr (pushO x.f.1 x.f.2 p.1, pushL x.f p.2))], [], 4⟩, 114⟩) 4 11 (.alt 11 .leaf .nil) rfl (by decide) (by decide) mixed (by kernel_rfl) (by decide) ?_ ?_
          · simp -implicitDefEqProofs only [awl, ne_eq, srcRows, awo, aggEq, eqF, litEq, andO, qwl, qwo, Go.Ab.qOp, lop, oneK, stepOp, pairO, pureOp, heapOp, entry, slotsOf, ev, evL, evP, evO, lk, up, St.put, St.drop, constAV, cellAV, cellsAV, plain, binV, nilCmp, intBin, strBin, guardBit, boolOf, fnOf, intOfAV, bound, resOf, retV, moved, rowOf, valAt, Kd.agg, AV.cells, splice, places, fillAV, rowsFill, Hp.none, ↓reduceIte, reduceCtorEq, Nat.reduceLT, Nat.reduceEqDiff, Nat.reduceAdd, Nat.reduceLeDiff, Nat.reducePow, Nat.reduceMul, Yzz, Xzz, Yzy, tyW]
            refine CallQ_k call22 (Push_spec p.1 x.f.1 x.f.2) (allc (gp_encB _) (allc (.agg (allc (.lit _) (allc (.lit _) alln))) alln)) (gp_encB _) ?_
            simp -implicitDefEqProofs only [awl, ne_eq, srcRows, awo, aggEq, eqF, litEq, andO, qwl, qwo, Go.Ab.qOp, lop, oneK, stepOp, pairO, pureOp, heapOp, entry, slotsOf, ev, evL, evP, evO, lk, up, St.put, St.drop, constAV, cellAV, cellsAV, plain, binV, nilCmp, intBin, strBin, guardBit, boolOf, fnOf, intOfAV, bound, resOf, retV, moved, rowOf, valAt, Kd.agg, AV.cells, splice, places, fillAV, rowsFill, Hp.none, ↓reduceIte, reduceCtorEq, Nat.reduceLT, Nat.reduceEqDiff, Nat.reduceAdd, Nat.reduceLeDiff, Nat.reducePow, Nat.reduceMul, Yzz, Xzz, Yzy, tyW]
            refine CallQ_pure call28 (Push_r p.2 x.f (by have := okp.len; omega) (fun s hs => by have := okp.sks s hs; omega)) (allc (pureBr _) (allc (.agg (pure_encP x.f)) alln)) (pureBr _) ?_
            simp -implicitDefEqProofs only [awl, ne_eq, srcRows, awo, aggEq, eqF, litEq, andO, qwl, qwo, Go.Ab.qOp, lop, oneK, stepOp, pairO, pureOp, heapOp, entry, slotsOf, ev, evL, evP, evO, lk, up, St.put, St.drop, constAV, cellAV, cellsAV, plain, binV, nilCmp, intBin, strBin, guardBit, boolOf, fnOf, intOfAV, bound, resOf, retV, moved, rowOf, valAt, Kd.agg, AV.cells, splice, places, fillAV, rowsFill, Hp.none, ↓reduceIte, reduceCtorEq, Nat.reduceLT, Nat.reduceEqDiff, Nat.reduceAdd, Nat.reduceLeDiff, Nat.reducePow, Nat.reduceMul, Yzz, Xzz, Yzy, tyW, encB, encBr]
            exact St.wk.cp (St.wk_slots1 (by simp [lk]) (by simp [lk, encPr]) (fun t => rfl))
          · simp -implicitDefEqProofs only [awl, ne_eq, srcRows, awo, aggEq, eqF, litEq, andO, qwl, qwo, Go.Ab.qOp, lop, oneK, stepOp, pairO, pureOp, heapOp, entry, slotsOf, ev, evL, evP, evO, lk, up, St.put, St.drop, constAV, cellAV, cellsAV, plain, binV, nilCmp, intBin, strBin, guardBit, boolOf, fnOf, intOfAV, bound, resOf, retV, moved, rowOf, valAt, Kd.agg, AV.cells, splice, places, fillAV, rowsFill, Hp.none, ↓reduceIte, reduceCtorEq, Nat.reduceLT, Nat.reduceEqDiff, Nat.reduceAdd, Nat.reduceLeDiff, Nat.reducePow, Nat.reduceMul, Yzz, Xzz, Yzy, tyW, ep]
            have sm : madeStep rows x = ((pushO x.f.1 x.f.2 p.1, pushL x.f p.2) : Pr) := by unfold madeStep; simp only [stp, stq, if_neg k0, if_pos k1]
            by_cases hL : (pushL x.f p.2 : List Sk).length > 300
            · have L1 : ((((pushL x.f p.2 : List Sk).length : Nat) : Int) > 300) = True := by simp only [eq_iff_iff, iff_true]; omega
              have fin := kexpo_pg (h := ⟨[(3, [encO (pushO x.f.1 x.f.2 p.1), .vec ((pushL x.f p.2 : List Sk).map encR) false])], [], 4⟩) (rows := rows) (fun _ => by first | rfl | exact absurd h0 (by assumption))
              rw [he, madeL_stop (.inr (by rw [sm]; exact hL))]
              simp -implicitDefEqProofs only [awl, ne_eq, srcRows, awo, aggEq, eqF, litEq, andO, qwl, qwo, Go.Ab.qOp, lop, oneK, stepOp, pairO, pureOp, heapOp, entry, slotsOf, ev, evL, evP, evO, lk, up, St.put, St.drop, constAV, cellAV, cellsAV, plain, binV, nilCmp, intBin, strBin, guardBit, boolOf, fnOf, intOfAV, bound, resOf, retV, moved, rowOf, valAt, Kd.agg, AV.cells, splice, places, fillAV, rowsFill, Hp.none, ↓reduceIte, reduceCtorEq, Nat.reduceLT, Nat.reduceEqDiff, Nat.reduceAdd, Nat.reduceLeDiff, Nat.reducePow, Nat.reduceMul, Yzz, Xzz, Yzy, tyW, L1, decide_true, List.length_map]
              rw [pgA, if_pos h0] at fin
              exact fin
            · have L1 : ((((pushL x.f p.2 : List Sk).length : Nat) : Int) > 300) = False := by simp only [eq_iff_iff, iff_false]; omega
              have okn := madeStep_ok hok x (by rw [sm]; exact Nat.le_of_not_lt hL)
              rw [madeL_go (by omega) (by rw [sm]; exact Nat.le_of_not_lt hL)] at he
              rw [sm] at okn he
              simp -implicitDefEqProofs (disch := omega) only [awl, ne_eq, srcRows, awo, aggEq, eqF, litEq, andO, qwl, qwo, Go.Ab.qOp, lop, oneK, stepOp, pairO, pureOp, heapOp, entry, slotsOf, ev, evL, evP, evO, lk, up, St.put, St.drop, constAV, cellAV, cellsAV, plain, binV, nilCmp, intBin, strBin, guardBit, boolOf, fnOf, intOfAV, bound, resOf, retV, moved, rowOf, valAt, Kd.agg, AV.cells, splice, places, fillAV, rowsFill, Hp.none, ↓reduceIte, reduceCtorEq, Nat.reduceLT, Nat.reduceEqDiff, Nat.reduceAdd, Nat.reduceLeDiff, Nat.reducePow, Nat.reduceMul, Yzz, Xzz, Yzy, tyW, L1, decide_false, List.length_map, List.mem_singleton, forall_eq, eq_true (rows2 rows), hfitp, and_self, if_true, i64w]
              exact ⟨rows ++ [((pushO x.f.1 x.f.2 p.1, pushL x.f p.2) : Pr)], ⟨he, by omega, by simp [hn], okall okn⟩, md_fin hn rfl rfl rfl rfl rfl rfl (by show 4 < 5; decide)⟩
        · have e1 : (x.kind == 1) = false := by simpa using k1
          by_cases k2 : x.kind = 2
          · have e2 : (x.kind == 2) = true := by simpa using k2
            simp -implicitDefEqProofs only [awl, ne_eq, srcRows, awo, aggEq, eqF, litEq, andO, qwl, qwo, Go.Ab.qOp, lop, oneK, stepOp, pairO, pureOp, heapOp, entry, slotsOf, ev, evL, evP, evO, lk, up, St.put, St.drop, constAV, cellAV, cellsAV, plain, binV, nilCmp, intBin, strBin, guardBit, boolOf, fnOf, intOfAV, bound, resOf, retV, moved, rowOf, valAt, Kd.agg, AV.cells, splice, places, fillAV, rowsFill, Hp.none, ↓reduceIte, reduceCtorEq, Nat.reduceLT, Nat.reduceEqDiff, Nat.reduceAdd, Nat.reduceLeDiff, Nat.reducePow, Nat.reduceMul, Yzz, Xzz, Yzy, tyW, e0, e1, e2]
            refine aw_drawC (n := 114) (σ' := ⟨[(18, .lit (.int .i64 (i : Int))), (17, .lit (.int .i64 (l.length : Int))), (16, .vec (l.map encAc) false), (3, .vec (rows.map encPr) true), (8, .ptr 3 0)], ⟨[(3, encPr (comb p.1 q.1, joinL p.2 q.2))], [], 4⟩, 114⟩) 4 11 (.alt 11 .leaf .nil) rfl (by decide) (by decide) mixed (by kernel_rfl) (by decide) ?_ ?_
            · simp -implicitDefEqProofs only [awl, ne_eq, srcRows, awo, aggEq, eqF, litEq, andO, qwl, qwo, Go.Ab.qOp, lop, oneK, stepOp, pairO, pureOp, heapOp, entry, slotsOf, ev, evL, evP, evO, lk, up, St.put, St.drop, constAV, cellAV, cellsAV, plain, binV, nilCmp, intBin, strBin, guardBit, boolOf, fnOf, intOfAV, bound, resOf, retV, moved, rowOf, valAt, Kd.agg, AV.cells, splice, places, fillAV, rowsFill, Hp.none, ↓reduceIte, reduceCtorEq, Nat.reduceLT, Nat.reduceEqDiff, Nat.reduceAdd, Nat.reduceLeDiff, Nat.reducePow, Nat.reduceMul, Yzz, Xzz, Yzy, tyW]
              refine CallQ_k call20 (Join_spec 536870912 536870912 (by decide) p.1 q.1 okp.wf okq.wf (okp.bd.mono pw) (okq.bd.mono pw)) (allc (gp_encB _) (allc (gp_encB _) alln)) (gp_encB _) ?_
              simp -implicitDefEqProofs only [awl, ne_eq, srcRows, awo, aggEq, eqF, litEq, andO, qwl, qwo, Go.Ab.qOp, lop, oneK, stepOp, pairO, pureOp, heapOp, entry, slotsOf, ev, evL, evP, evO, lk, up, St.put, St.drop, constAV, cellAV, cellsAV, plain, binV, nilCmp, intBin, strBin, guardBit, boolOf, fnOf, intOfAV, bound, resOf, retV, moved, rowOf, valAt, Kd.agg, AV.cells, splice, places, fillAV, rowsFill, Hp.none, ↓reduceIte, reduceCtorEq, Nat.reduceLT, Nat.reduceEqDiff, Nat.reduceAdd, Nat.reduceLeDiff, Nat.reducePow, Nat.reduceMul, Yzz, Xzz, Yzy, tyW]
              refine CallQ_pure call29 (Join_r p.2 q.2 (by have := okp.len; omega) (by have := okq.len; omega) (fun s hs => by have := okp.sks s hs; omega) (fun s hs => by have := okq.sks s hs; omega)) (allc (pureBr _) (allc (pureBr _) alln)) (pureBr _) ?_
              simp -implicitDefEqProofs only [awl, ne_eq, srcRows, awo, aggEq, eqF, litEq, andO, qwl, qwo, Go.Ab.qOp, lop, oneK, stepOp, pairO, pureOp, heapOp, entry, slotsOf, ev, evL, evP, evO, lk, up, St.put, St.drop, constAV, cellAV, cellsAV, plain, binV, nilCmp, intBin, strBin, guardBit, boolOf, fnOf, intOfAV, bound, resOf, retV, moved, rowOf, valAt, Kd.agg, AV.cells, splice, places, fillAV, rowsFill, Hp.none, ↓reduceIte, reduceCtorEq, Nat.reduceLT, Nat.reduceEqDiff, Nat.reduceAdd, Nat.reduceLeDiff, Nat.reducePow, Nat.reduceMul, Yzz, Xzz, Yzy, tyW, encB, encBr]
              exact St.wk.cp (St.wk_slots1 (by simp [lk]) (by simp [lk, encPr]) (fun t => rfl))
            · simp -implicitDefEqProofs only [awl, ne_eq, srcRows, awo, aggEq, eqF, litEq, andO, qwl, qwo, Go.Ab.qOp, lop, oneK, stepOp, pairO, pureOp, heapOp, entry, slotsOf, ev, evL, evP, evO, lk, up, St.put, St.drop, constAV, cellAV, cellsAV, plain, binV, nilCmp, intBin, strBin, guardBit, boolOf, fnOf, intOfAV, bound, resOf, retV, moved, rowOf, valAt, Kd.agg, AV.cells, splice, places, fillAV, rowsFill, Hp.none, ↓reduceIte, reduceCtorEq, Nat.reduceLT, Nat.reduceEqDiff, Nat.reduceAdd, Nat.reduceLeDiff, Nat.reducePow, Nat.reduceMul, Yzz, Xzz, Yzy, tyW, ep]
              have sm : madeStep rows x = ((comb p.1 q.1, joinL p.2 q.2) : Pr) := by unfold madeStep; simp only [stp, stq, if_neg k0, if_neg k1, if_pos k2]
              by_cases hL : (joinL p.2 q.2 : List Sk).length > 300
              · have L1 : ((((joinL p.2 q.2 : List Sk).length : Nat) : Int) > 300) = True := by simp only [eq_iff_iff, iff_true]; omega
                have fin := kexpo_pg (h := ⟨[(3, [encO (comb p.1 q.1), .vec ((joinL p.2 q.2 : List Sk).map encR) false])], [], 4⟩) (rows := rows) (fun _ => by first | rfl | exact absurd h0 (by assumption))
                rw [he, madeL_stop (.inr (by rw [sm]; exact hL))]
                simp -implicitDefEqProofs only [awl, ne_eq, srcRows, awo, aggEq, eqF, litEq, andO, qwl, qwo, Go.Ab.qOp, lop, oneK, stepOp, pairO, pureOp, heapOp, entry, slotsOf, ev, evL, evP, evO, lk, up, St.put, St.drop, constAV, cellAV, cellsAV, plain, binV, nilCmp, intBin, strBin, guardBit, boolOf, fnOf, intOfAV, bound, resOf, retV, moved, rowOf, valAt, Kd.agg, AV.cells, splice, places, fillAV, rowsFill, Hp.none, ↓reduceIte, reduceCtorEq, Nat.reduceLT, Nat.reduceEqDiff, Nat.reduceAdd, Nat.reduceLeDiff, Nat.reducePow, Nat.reduceMul, Yzz, Xzz, Yzy, tyW, L1, decide_true, List.length_map]
                rw [pgA, if_pos h0] at fin
                exact fin
              · have L1 : ((((joinL p.2 q.2 : List Sk).length : Nat) : Int) > 300) = False := by simp only [eq_iff_iff, iff_false]; omega
                have okn := madeStep_ok hok x (by rw [sm]; exact Nat.le_of_not_lt hL)
                rw [madeL_go (by omega) (by rw [sm]; exact Nat.le_of_not_lt hL)] at he
                rw [sm] at okn he
                simp -implicitDefEqProofs (disch := omega) only [awl, ne_eq, srcRows, awo, aggEq, eqF, litEq, andO, qwl, qwo, Go.Ab.qOp, lop, oneK, stepOp, pairO, pureOp, heapOp, entry, slotsOf, ev, evL, evP, evO, lk, up, St.put, St.drop, constAV, cellAV, cellsAV, plain, binV, nilCmp, intBin, strBin, guardBit, boolOf, fnOf, intOfAV, bound, resOf, retV, moved, rowOf, valAt, Kd.agg, AV.cells, splice, places, fillAV, rowsFill, Hp.none, ↓reduceIte, reduceCtorEq, Nat.reduceLT, Nat.reduceEqDiff, Nat.reduceAdd, Nat.reduceLeDiff, Nat.reducePow, Nat.reduceMul, Yzz, Xzz, Yzy, tyW, L1, decide_false, List.length_map, List.mem_singleton, forall_eq, eq_true (rows2 rows), hfitp, and_self, if_true, i64w]
                exact ⟨rows ++ [((comb p.1 q.1, joinL p.2 q.2) : Pr)], ⟨he, by omega, by simp [hn], okall okn⟩, md_fin hn rfl rfl rfl rfl rfl rfl (by show 4 < 5; decide)⟩
          · have e2 : (x.kind == 2) = false := by simpa using k2
            by_cases k3 : x.kind = 3
            · have e3 : (x.kind == 3) = true := by simpa using k3
              simp -implicitDefEqProofs only [awl, ne_eq, srcRows, awo, aggEq, eqF, litEq, andO, qwl, qwo, Go.Ab.qOp, lop, oneK, stepOp, pairO, pureOp, heapOp, entry, slotsOf, ev, evL, evP, evO, lk, up, St.put, St.drop, constAV, cellAV, cellsAV, plain, binV, nilCmp, intBin, strBin, guardBit, boolOf, fnOf, intOfAV, bound, resOf, retV, moved, rowOf, valAt, Kd.agg, AV.cells, splice, places, fillAV, rowsFill, Hp.none, ↓reduceIte, reduceCtorEq, Nat.reduceLT, Nat.reduceEqDiff, Nat.reduceAdd, Nat.reduceLeDiff, Nat.reducePow, Nat.reduceMul, Yzz, Xzz, Yzy, tyW, e0, e1, e2, e3]
              refine aw_drawC (n := 114) (σ' := ⟨[(18, .lit (.int .i64 (i : Int))), (17, .lit (.int .i64 (l.length : Int))), (16, .vec (l.map encAc) false), (3, .vec (rows.map encPr) true), (8, .ptr 3 0)], ⟨[(3, encPr (belowO x.f.1 x.f.2 p.1, belowL x.f p.2))], [], 4⟩, 114⟩) 4 11 (.alt 11 .leaf .nil) rfl (by decide) (by decide) mixed (by kernel_rfl) (by decide) ?_ ?_
              · simp -implicitDefEqProofs only [awl, ne_eq, srcRows, awo, aggEq, eqF, litEq, andO, qwl, qwo, Go.Ab.qOp, lop, oneK, stepOp, pairO, pureOp, heapOp, entry, slotsOf, ev, evL, evP, evO, lk, up, St.put, St.drop, constAV, cellAV, cellsAV, plain, binV, nilCmp, intBin, strBin, guardBit, boolOf, fnOf, intOfAV, bound, resOf, retV, moved, rowOf, valAt, Kd.agg, AV.cells, splice, places, fillAV, rowsFill, Hp.none, ↓reduceIte, reduceCtorEq, Nat.reduceLT, Nat.reduceEqDiff, Nat.reduceAdd, Nat.reduceLeDiff, Nat.reducePow, Nat.reduceMul, Yzz, Xzz, Yzy, tyW]
                refine CallQ_k call23 (Below_spec 536870912 (by decide) p.1 okp.wf (okp.bd.mono pw) x.f.1 x.f.2) (allc (gp_encB _) (allc (.agg (allc (.lit _) (allc (.lit _) alln))) alln)) (gp_encB _) ?_
                simp -implicitDefEqProofs only [awl, ne_eq, srcRows, awo, aggEq, eqF, litEq, andO, qwl, qwo, Go.Ab.qOp, lop, oneK, stepOp, pairO, pureOp, heapOp, entry, slotsOf, ev, evL, evP, evO, lk, up, St.put, St.drop, constAV, cellAV, cellsAV, plain, binV, nilCmp, intBin, strBin, guardBit, boolOf, fnOf, intOfAV, bound, resOf, retV, moved, rowOf, valAt, Kd.agg, AV.cells, splice, places, fillAV, rowsFill, Hp.none, ↓reduceIte, reduceCtorEq, Nat.reduceLT, Nat.reduceEqDiff, Nat.reduceAdd, Nat.reduceLeDiff, Nat.reducePow, Nat.reduceMul, Yzz, Xzz, Yzy, tyW]
                refine CallQ_pure call30 (Below_r p.2 x.f (by have := okp.len; omega) (fun s hs => by have := okp.sks s hs; omega)) (allc (pureBr _) (allc (.agg (pure_encP x.f)) alln)) (pureBr _) ?_
                simp -implicitDefEqProofs only [awl, ne_eq, srcRows, awo, aggEq, eqF, litEq, andO, qwl, qwo, Go.Ab.qOp, lop, oneK, stepOp, pairO, pureOp, heapOp, entry, slotsOf, ev, evL, evP, evO, lk, up, St.put, St.drop, constAV, cellAV, cellsAV, plain, binV, nilCmp, intBin, strBin, guardBit, boolOf, fnOf, intOfAV, bound, resOf, retV, moved, rowOf, valAt, Kd.agg, AV.cells, splice, places, fillAV, rowsFill, Hp.none, ↓reduceIte, reduceCtorEq, Nat.reduceLT, Nat.reduceEqDiff, Nat.reduceAdd, Nat.reduceLeDiff, Nat.reducePow, Nat.reduceMul, Yzz, Xzz, Yzy, tyW, encB, encBr]
                exact St.wk.cp (St.wk_slots1 (by simp [lk]) (by simp [lk, encPr]) (fun t => rfl))
              · simp -implicitDefEqProofs only [awl, ne_eq, srcRows, awo, aggEq, eqF, litEq, andO, qwl, qwo, Go.Ab.qOp, lop, oneK, stepOp, pairO, pureOp, heapOp, entry, slotsOf, ev, evL, evP, evO, lk, up, St.put, St.drop, constAV, cellAV, cellsAV, plain, binV, nilCmp, intBin, strBin, guardBit, boolOf, fnOf, intOfAV, bound, resOf, retV, moved, rowOf, valAt, Kd.agg, AV.cells, splice, places, fillAV, rowsFill, Hp.none, ↓reduceIte, reduceCtorEq, Nat.reduceLT, Nat.reduceEqDiff, Nat.reduceAdd, Nat.reduceLeDiff, Nat.reducePow, Nat.reduceMul, Yzz, Xzz, Yzy, tyW, ep]
                have sm : madeStep rows x = ((belowO x.f.1 x.f.2 p.1, belowL x.f p.2) : Pr) := by unfold madeStep; simp only [stp, stq, if_neg k0, if_neg k1, if_neg k2, if_pos k3]
                by_cases hL : (belowL x.f p.2 : List Sk).length > 300
                · have L1 : ((((belowL x.f p.2 : List Sk).length : Nat) : Int) > 300) = True := by simp only [eq_iff_iff, iff_true]; omega
                  have fin := kexpo_pg (h := ⟨[(3, [encO (belowO x.f.1 x.f.2 p.1), .vec ((belowL x.f p.2 : List Sk).map encR) false])], [], 4⟩) (rows := rows) (fun _ => by first | rfl | exact absurd h0 (by assumption))
                  rw [he, madeL_stop (.inr (by rw [sm]; exact hL))]
                  simp -implicitDefEqProofs only [awl, ne_eq, srcRows, awo, aggEq, eqF, litEq, andO, qwl, qwo, Go.Ab.qOp, lop, oneK, stepOp, pairO, pureOp, heapOp, entry, slotsOf, ev, evL, evP, evO, lk, up, St.put, St.drop, constAV, cellAV, cellsAV, plain, binV, nilCmp, intBin, strBin, guardBit, boolOf, fnOf, intOfAV, bound, resOf, retV, moved, rowOf, valAt, Kd.agg, AV.cells, splice, places, fillAV, rowsFill, Hp.none, ↓reduceIte, reduceCtorEq, Nat.reduceLT, Nat.reduceEqDiff, Nat.reduceAdd, Nat.reduceLeDiff, Nat.reducePow, Nat.reduceMul, Yzz, Xzz, Yzy, tyW, L1, decide_true, List.length_map]
                  rw [pgA, if_pos h0] at fin
                  exact fin
                · have L1 : ((((belowL x.f p.2 : List Sk).length : Nat) : Int) > 300) = False := by simp only [eq_iff_iff, iff_false]; omega
                  have okn := madeStep_ok hok x (by rw [sm]; exact Nat.le_of_not_lt hL)
                  rw [madeL_go (by omega) (by rw [sm]; exact Nat.le_of_not_lt hL)] at he
                  rw [sm] at okn he
                  simp -implicitDefEqProofs (disch := omega) only [awl, ne_eq, srcRows, awo, aggEq, eqF, litEq, andO, qwl, qwo, Go.Ab.qOp, lop, oneK, stepOp, pairO, pureOp, heapOp, entry, slotsOf, ev, evL, evP, evO, lk, up, St.put, St.drop, constAV, cellAV, cellsAV, plain, binV, nilCmp, intBin, strBin, guardBit, boolOf, fnOf, intOfAV, bound, resOf, retV, moved, rowOf, valAt, Kd.agg, AV.cells, splice, places, fillAV, rowsFill, Hp.none, ↓reduceIte, reduceCtorEq, Nat.reduceLT, Nat.reduceEqDiff, Nat.reduceAdd, Nat.reduceLeDiff, Nat.reducePow, Nat.reduceMul, Yzz, Xzz, Yzy, tyW, L1, decide_false, List.length_map, List.mem_singleton, forall_eq, eq_true (rows2 rows), hfitp, and_self, if_true, i64w]
                  exact ⟨rows ++ [((belowO x.f.1 x.f.2 p.1, belowL x.f p.2) : Pr)], ⟨he, by omega, by simp [hn], okall okn⟩, md_fin hn rfl rfl rfl rfl rfl rfl (by show 4 < 5; decide)⟩
            · have e3 : (x.kind == 3) = false := by simpa using k3
              by_cases k5 : x.kind = 5
              · have e5 : (x.kind == 5) = true := by simpa using k5
                simp -implicitDefEqProofs only [awl, ne_eq, srcRows, awo, aggEq, eqF, litEq, andO, qwl, qwo, Go.Ab.qOp, lop, oneK, stepOp, pairO, pureOp, heapOp, entry, slotsOf, ev, evL, evP, evO, lk, up, St.put, St.drop, constAV, cellAV, cellsAV, plain, binV, nilCmp, intBin, strBin, guardBit, boolOf, fnOf, intOfAV, bound, resOf, retV, moved, rowOf, valAt, Kd.agg, AV.cells, splice, places, fillAV, rowsFill, Hp.none, ↓reduceIte, reduceCtorEq, Nat.reduceLT, Nat.reduceEqDiff, Nat.reduceAdd, Nat.reduceLeDiff, Nat.reducePow, Nat.reduceMul, Yzz, Xzz, Yzy, tyW, e0, e1, e2, e3, e5]
                refine CallK_k call24 Empty_spec alln (gp_encB emptyO) ?_
                simp -implicitDefEqProofs only [awl, ne_eq, srcRows, awo, aggEq, eqF, litEq, andO, qwl, qwo, Go.Ab.qOp, lop, oneK, stepOp, pairO, pureOp, heapOp, entry, slotsOf, ev, evL, evP, evO, lk, up, St.put, St.drop, constAV, cellAV, cellsAV, plain, binV, nilCmp, intBin, strBin, guardBit, boolOf, fnOf, intOfAV, bound, resOf, retV, moved, rowOf, valAt, Kd.agg, AV.cells, splice, places, fillAV, rowsFill, Hp.none, ↓reduceIte, reduceCtorEq, Nat.reduceLT, Nat.reduceEqDiff, Nat.reduceAdd, Nat.reduceLeDiff, Nat.reducePow, Nat.reduceMul, Yzz, Xzz, Yzy, tyW]
                refine CallK_pure call25 Empty_r alln (pureBr _) ?_
                simp -implicitDefEqProofs only [awl, ne_eq, srcRows, awo, aggEq, eqF, litEq, andO, qwl, qwo, Go.Ab.qOp, lop, oneK, stepOp, pairO, pureOp, heapOp, entry, slotsOf, ev, evL, evP, evO, lk, up, St.put, St.drop, constAV, cellAV, cellsAV, plain, binV, nilCmp, intBin, strBin, guardBit, boolOf, fnOf, intOfAV, bound, resOf, retV, moved, rowOf, valAt, Kd.agg, AV.cells, splice, places, fillAV, rowsFill, Hp.none, ↓reduceIte, reduceCtorEq, Nat.reduceLT, Nat.reduceEqDiff, Nat.reduceAdd, Nat.reduceLeDiff, Nat.reducePow, Nat.reduceMul, Yzz, Xzz, Yzy, tyW, encB, encBr]
                have sm : madeStep rows x = ((emptyO, [[]]) : Pr) := by unfold madeStep; simp only [stp, stq, if_neg k0, if_neg k1, if_neg k2, if_neg k3, if_pos k5]
                have L1 : (((1 : Nat) : Int) > 300) = False := by simp
                have hL : ¬ ([[]] : List Sk).length > 300 := by simp
                have okn := madeStep_ok hok x (by rw [sm]; exact Nat.le_of_not_lt hL)
                rw [madeL_go (by omega) (by rw [sm]; exact Nat.le_of_not_lt hL)] at he
                rw [sm] at okn he
                simp -implicitDefEqProofs (disch := omega) only [awl, ne_eq, srcRows, awo, aggEq, eqF, litEq, andO, qwl, qwo, Go.Ab.qOp, lop, oneK, stepOp, pairO, pureOp, heapOp, entry, slotsOf, ev, evL, evP, evO, lk, up, St.put, St.drop, constAV, cellAV, cellsAV, plain, binV, nilCmp, intBin, strBin, guardBit, boolOf, fnOf, intOfAV, bound, resOf, retV, moved, rowOf, valAt, Kd.agg, AV.cells, splice, places, fillAV, rowsFill, Hp.none, ↓reduceIte, reduceCtorEq, Nat.reduceLT, Nat.reduceEqDiff, Nat.reduceAdd, Nat.reduceLeDiff, Nat.reducePow, Nat.reduceMul, Yzz, Xzz, Yzy, tyW, L1, decide_false, List.length_map, List.mem_singleton, forall_eq, eq_true (rows2 rows), hfitp, and_self, if_true, List.length_cons, List.length_nil, Nat.zero_add, Nat.reduceAdd, i64w]
                exact ⟨rows ++ [((emptyO, [[]]) : Pr)], ⟨he, by omega, by simp [hn], okall okn⟩, md_fin hn rfl rfl rfl rfl rfl rfl (by show 4 < 5; decide)⟩
              · have e5 : (x.kind == 5) = false := by simpa using k5
                simp -implicitDefEqProofs only [awl, ne_eq, srcRows, awo, aggEq, eqF, litEq, andO, qwl, qwo, Go.Ab.qOp, lop, oneK, stepOp, pairO, pureOp, heapOp, entry, slotsOf, ev, evL, evP, evO, lk, up, St.put, St.drop, constAV, cellAV, cellsAV, plain, binV, nilCmp, intBin, strBin, guardBit, boolOf, fnOf, intOfAV, bound, resOf, retV, moved, rowOf, valAt, Kd.agg, AV.cells, splice, places, fillAV, rowsFill, Hp.none, ↓reduceIte, reduceCtorEq, Nat.reduceLT, Nat.reduceEqDiff, Nat.reduceAdd, Nat.reduceLeDiff, Nat.reducePow, Nat.reduceMul, Yzz, Xzz, Yzy, tyW, e0, e1, e2, e3, e5]
                have sm : madeStep rows x = ((none, []) : Pr) := by unfold madeStep; simp only [stp, stq, if_neg k0, if_neg k1, if_neg k2, if_neg k3, if_neg k5]
                have L1 : (((0 : Nat) : Int) > 300) = False := by simp
                have hL : ¬ ([] : List Sk).length > 300 := by simp
                have okn := madeStep_ok hok x (by rw [sm]; exact Nat.le_of_not_lt hL)
                rw [madeL_go (by omega) (by rw [sm]; exact Nat.le_of_not_lt hL)] at he
                rw [sm] at okn he
                simp -implicitDefEqProofs (disch := omega) only [awl, ne_eq, srcRows, awo, aggEq, eqF, litEq, andO, qwl, qwo, Go.Ab.qOp, lop, oneK, stepOp, pairO, pureOp, heapOp, entry, slotsOf, ev, evL, evP, evO, lk, up, St.put, St.drop, constAV, cellAV, cellsAV, plain, binV, nilCmp, intBin, strBin, guardBit, boolOf, fnOf, intOfAV, bound, resOf, retV, moved, rowOf, valAt, Kd.agg, AV.cells, splice, places, fillAV, rowsFill, Hp.none, ↓reduceIte, reduceCtorEq, Nat.reduceLT, Nat.reduceEqDiff, Nat.reduceAdd, Nat.reduceLeDiff, Nat.reducePow, Nat.reduceMul, Yzz, Xzz, Yzy, tyW, L1, decide_false, List.length_map, List.mem_singleton, forall_eq, eq_true (rows2 rows), hfitp, and_self, if_true, List.length_cons, List.length_nil, Nat.zero_add, Nat.reduceAdd, i64w]
                exact ⟨rows ++ [((none, []) : Pr)], ⟨he, by omega, by simp [hn], okall okn⟩, md_fin hn rfl rfl rfl rfl rfl rfl (by show 4 < 5; decide)⟩
    · skip
      by_cases h30' : 30 ≤ i
      · have n30 : ((i : Int) ≥ 30) = True := by simp; omega
        have fin := kexpo_pg (h := ⟨[(1, encAc x)], [(0, ⟨rows.map encPr, 0, 2⟩)], 2⟩) (rows := rows) (fun _ => by first | rfl | exact absurd h0 (by assumption))
        rw [he, madeL_stop (.inl h30')]
        simp -implicitDefEqProofs only [awl, ne_eq, srcRows, awo, aggEq, eqF, litEq, andO, qwl, qwo, Go.Ab.qOp, lop, oneK, stepOp, pairO, pureOp, heapOp, entry, slotsOf, ev, evL, evP, evO, lk, up, St.put, St.drop, constAV, cellAV, cellsAV, plain, binV, nilCmp, intBin, strBin, guardBit, boolOf, fnOf, intOfAV, bound, resOf, retV, moved, rowOf, valAt, Kd.agg, AV.cells, splice, places, fillAV, rowsFill, Hp.none, ↓reduceIte, reduceCtorEq, Nat.reduceLT, Nat.reduceEqDiff, Nat.reduceAdd, Nat.reduceLeDiff, Nat.reducePow, Nat.reduceMul, Yzz, Xzz, Yzy, tyW, mdS, pgA, pgT, pgN, if_neg h0, List.length_map, i1, decide_true, ncast, Int.toNat_natCast, gx, decide_false, n30]
        rw [pgA, if_neg h0] at fin
        exact fin
      have n30 : ((i : Int) ≥ 30) = False := by simp; omega
      simp -implicitDefEqProofs only [awl, ne_eq, srcRows, awo, aggEq, eqF, litEq, andO, qwl, qwo, Go.Ab.qOp, lop, oneK, stepOp, pairO, pureOp, heapOp, entry, slotsOf, ev, evL, evP, evO, lk, up, St.put, St.drop, constAV, cellAV, cellsAV, plain, binV, nilCmp, intBin, strBin, guardBit, boolOf, fnOf, intOfAV, bound, resOf, retV, moved, rowOf, valAt, Kd.agg, AV.cells, splice, places, fillAV, rowsFill, Hp.none, ↓reduceIte, reduceCtorEq, Nat.reduceLT, Nat.reduceEqDiff, Nat.reduceAdd, Nat.reduceLeDiff, Nat.reducePow, Nat.reduceMul, Yzz, Xzz, Yzy, tyW, mdS, pgA, pgT, pgN, if_neg h0, List.length_map, i1, decide_true, ncast, Int.toNat_natCast, gx, decide_false, n30]
      refine aw_let2 (n := 114) (σ' := ⟨[(18, .lit (.int .i64 (i : Int))), (17, .lit (.int .i64 (l.length : Int))), (16, .vec (l.map encAc) false), (3, .own 0 rows.length), (5, .ptr 1 0), (6, .ptr 2 0), (7, .ptr 3 0)], ⟨[(1, encAc x), (2, encPr p), (3, encPr q)], [(0, ⟨rows.map encPr, 0, 2⟩)], 4⟩, 114⟩) 4 16 18 6 33 17 19 7 33 rfl rfl rfl rfl rfl rfl rfl rfl rfl (by decide) (by decide) mixed ?_ ?_
      · simp -implicitDefEqProofs only [awl, ne_eq, srcRows, awo, aggEq, eqF, litEq, andO, qwl, qwo, Go.Ab.qOp, lop, oneK, stepOp, pairO, pureOp, heapOp, entry, slotsOf, ev, evL, evP, evO, lk, up, St.put, St.drop, constAV, cellAV, cellsAV, plain, binV, nilCmp, intBin, strBin, guardBit, boolOf, fnOf, intOfAV, bound, resOf, retV, moved, rowOf, valAt, Kd.agg, AV.cells, splice, places, fillAV, rowsFill, Hp.none, ↓reduceIte, reduceCtorEq, Nat.reduceLT, Nat.reduceEqDiff, Nat.reduceAdd, Nat.reduceLeDiff, Nat.reducePow, Nat.reduceMul, Yzz, Xzz, Yzy, tyW, lop, List.length_map, decide_true, decide_false, ncast, Int.toNat_natCast, a0, a1, b0, b1, gp, gq, gp', gq']
        refine CallQ_pure call19 bc (allc (.lit _) (allc (.lit _) alln)) (.lit _) ?_
        simp -implicitDefEqProofs only [awl, ne_eq, srcRows, awo, aggEq, eqF, litEq, andO, qwl, qwo, Go.Ab.qOp, lop, oneK, stepOp, pairO, pureOp, heapOp, entry, slotsOf, ev, evL, evP, evO, lk, up, St.put, St.drop, constAV, cellAV, cellsAV, plain, binV, nilCmp, intBin, strBin, guardBit, boolOf, fnOf, intOfAV, bound, resOf, retV, moved, rowOf, valAt, Kd.agg, AV.cells, splice, places, fillAV, rowsFill, Hp.none, ↓reduceIte, reduceCtorEq, Nat.reduceLT, Nat.reduceEqDiff, Nat.reduceAdd, Nat.reduceLeDiff, Nat.reducePow, Nat.reduceMul, Yzz, Xzz, Yzy, tyW, lop, List.length_map, decide_true, decide_false, ncast, Int.toNat_natCast, a0, a1, b0, b1, gp, gq, gp', gq']
        refine CallQ_pure call19 bd (allc (.lit _) (allc (.lit _) alln)) (.lit _) ?_
        simp -implicitDefEqProofs only [awl, ne_eq, srcRows, awo, aggEq, eqF, litEq, andO, qwl, qwo, Go.Ab.qOp, lop, oneK, stepOp, pairO, pureOp, heapOp, entry, slotsOf, ev, evL, evP, evO, lk, up, St.put, St.drop, constAV, cellAV, cellsAV, plain, binV, nilCmp, intBin, strBin, guardBit, boolOf, fnOf, intOfAV, bound, resOf, retV, moved, rowOf, valAt, Kd.agg, AV.cells, splice, places, fillAV, rowsFill, Hp.none, ↓reduceIte, reduceCtorEq, Nat.reduceLT, Nat.reduceEqDiff, Nat.reduceAdd, Nat.reduceLeDiff, Nat.reducePow, Nat.reduceMul, Yzz, Xzz, Yzy, tyW, lop, List.length_map, decide_true, decide_false, ncast, Int.toNat_natCast, a0, a1, b0, b1, gp, gq, gp', gq']
        exact ⟨rfl, rfl, St.wk.cp (St.wk_slots1 (by simp [lk]) (by simp [lk, encAc, encPr]) (fun t => rfl))⟩
      simp -implicitDefEqProofs only [awl, ne_eq, srcRows, awo, aggEq, eqF, litEq, andO, qwl, qwo, Go.Ab.qOp, lop, oneK, stepOp, pairO, pureOp, heapOp, entry, slotsOf, ev, evL, evP, evO, lk, up, St.put, St.drop, constAV, cellAV, cellsAV, plain, binV, nilCmp, intBin, strBin, guardBit, boolOf, fnOf, intOfAV, bound, resOf, retV, moved, rowOf, valAt, Kd.agg, AV.cells, splice, places, fillAV, rowsFill, Hp.none, ↓reduceIte, reduceCtorEq, Nat.reduceLT, Nat.reduceEqDiff, Nat.reduceAdd, Nat.reduceLeDiff, Nat.reducePow, Nat.reduceMul, Yzz, Xzz, Yzy, tyW, ex, ep]
      refine CallK_k call21 None_spec alln (gp_encB none) ?_
      simp -implicitDefEqProofs only [awl, ne_eq, srcRows, awo, aggEq, eqF, litEq, andO, qwl, qwo, Go.Ab.qOp, lop, oneK, stepOp, pairO, pureOp, heapOp, entry, slotsOf, ev, evL, evP, evO, lk, up, St.put, St.drop, constAV, cellAV, cellsAV, plain, binV, nilCmp, intBin, strBin, guardBit, boolOf, fnOf, intOfAV, bound, resOf, retV, moved, rowOf, valAt, Kd.agg, AV.cells, splice, places, fillAV, rowsFill, Hp.none, ↓reduceIte, reduceCtorEq, Nat.reduceLT, Nat.reduceEqDiff, Nat.reduceAdd, Nat.reduceLeDiff, Nat.reducePow, Nat.reduceMul, Yzz, Xzz, Yzy, tyW, encB]
      by_cases k0 : x.kind = 0
      · have e0 : (x.kind == 0) = true := by simpa using k0
        by_cases hx8' : x.l.length ≤ 8
        · have l8 : ((x.l.length : Int) ≤ 8) = True := by simp; omega
          simp -implicitDefEqProofs only [awl, ne_eq, srcRows, awo, aggEq, eqF, litEq, andO, qwl, qwo, Go.Ab.qOp, lop, oneK, stepOp, pairO, pureOp, heapOp, entry, slotsOf, ev, evL, evP, evO, lk, up, St.put, St.drop, constAV, cellAV, cellsAV, plain, binV, nilCmp, intBin, strBin, guardBit, boolOf, fnOf, intOfAV, bound, resOf, retV, moved, rowOf, valAt, Kd.agg, AV.cells, splice, places, fillAV, rowsFill, Hp.none, ↓reduceIte, reduceCtorEq, Nat.reduceLT, Nat.reduceEqDiff, Nat.reduceAdd, Nat.reduceLeDiff, Nat.reducePow, Nat.reduceMul, Yzz, Xzz, Yzy, tyW, e0, l8, decide_true, List.length_map]
          refine aw_drawC (n := 114) (σ' := ⟨[(18, .lit (.int .i64 (i : Int))), (17, .lit (.int .i64 (l.length : Int))), (16, .vec (l.map encAc) false), (3, .own 0 rows.length), (8, .ptr 4 0)], ⟨[(4, encPr (ofO x.l, [x.l]))], [(0, ⟨rows.map encPr, 0, 2⟩)], 5⟩, 114⟩) 5 7 (.alt 7 .leaf .nil) rfl (by decide) (by decide) mixed (by kernel_rfl) (by decide) ?_ ?_
          · simp -implicitDefEqProofs only [awl, ne_eq, srcRows, awo, aggEq, eqF, litEq, andO, qwl, qwo, Go.Ab.qOp, lop, oneK, stepOp, pairO, pureOp, heapOp, entry, slotsOf, ev, evL, evP, evO, lk, up, St.put, St.drop, constAV, cellAV, cellsAV, plain, binV, nilCmp, intBin, strBin, guardBit, boolOf, fnOf, intOfAV, bound, resOf, retV, moved, rowOf, valAt, Kd.agg, AV.cells, splice, places, fillAV, rowsFill, Hp.none, ↓reduceIte, reduceCtorEq, Nat.reduceLT, Nat.reduceEqDiff, Nat.reduceAdd, Nat.reduceLeDiff, Nat.reducePow, Nat.reduceMul, Yzz, Xzz, Yzy, tyW]
            refine CallQ_k call26 (Of_spec x.l (Nat.le_trans hx8' (by decide))) (allc (.of_pure (pureS x.l)) alln) (gp_encB _) ?_
            simp -implicitDefEqProofs only [awl, ne_eq, srcRows, awo, aggEq, eqF, litEq, andO, qwl, qwo, Go.Ab.qOp, lop, oneK, stepOp, pairO, pureOp, heapOp, entry, slotsOf, ev, evL, evP, evO, lk, up, St.put, St.drop, constAV, cellAV, cellsAV, plain, binV, nilCmp, intBin, strBin, guardBit, boolOf, fnOf, intOfAV, bound, resOf, retV, moved, rowOf, valAt, Kd.agg, AV.cells, splice, places, fillAV, rowsFill, Hp.none, ↓reduceIte, reduceCtorEq, Nat.reduceLT, Nat.reduceEqDiff, Nat.reduceAdd, Nat.reduceLeDiff, Nat.reducePow, Nat.reduceMul, Yzz, Xzz, Yzy, tyW]
            refine CallQ_pure call27 (Of_r x.l (Nat.le_trans hx8' (by decide))) (allc (pureS x.l) alln) (pureBr _) ?_
            simp -implicitDefEqProofs only [awl, ne_eq, srcRows, awo, aggEq, eqF, litEq, andO, qwl, qwo, Go.Ab.qOp, lop, oneK, stepOp, pairO, pureOp, heapOp, entry, slotsOf, ev, evL, evP, evO, lk, up, St.put, St.drop, constAV, cellAV, cellsAV, plain, binV, nilCmp, intBin, strBin, guardBit, boolOf, fnOf, intOfAV, bound, resOf, retV, moved, rowOf, valAt, Kd.agg, AV.cells, splice, places, fillAV, rowsFill, Hp.none, ↓reduceIte, reduceCtorEq, Nat.reduceLT, Nat.reduceEqDiff, Nat.reduceAdd, Nat.reduceLeDiff, Nat.reducePow, Nat.reduceMul, Yzz, Xzz, Yzy, tyW, encB, encBr]
            exact St.wk.cp (St.wk_slots1 (by simp [lk]) (by simp [lk, encPr]) (fun t => rfl))
          · simp -implicitDefEqProofs only [awl, ne_eq, srcRows, awo, aggEq, eqF, litEq, andO, qwl, qwo, Go.Ab.qOp, lop, oneK, stepOp, pairO, pureOp, heapOp, entry, slotsOf, ev, evL, evP, evO, lk, up, St.put, St.drop, constAV, cellAV, cellsAV, plain, binV, nilCmp, intBin, strBin, guardBit, boolOf, fnOf, intOfAV, bound, resOf, retV, moved, rowOf, valAt, Kd.agg, AV.cells, splice, places, fillAV, rowsFill, Hp.none, ↓reduceIte, reduceCtorEq, Nat.reduceLT, Nat.reduceEqDiff, Nat.reduceAdd, Nat.reduceLeDiff, Nat.reducePow, Nat.reduceMul, Yzz, Xzz, Yzy, tyW, ep]
            have sm : madeStep rows x = ((ofO x.l, [x.l]) : Pr) := by unfold madeStep; simp only [stp, stq, if_pos k0, if_pos hx8']
            have L1 : (((1 : Nat) : Int) > 300) = False := by simp
            have hL : ¬ ([x.l] : List Sk).length > 300 := by simp
            have okn := madeStep_ok hok x (by rw [sm]; exact Nat.le_of_not_lt hL)
            rw [madeL_go (by omega) (by rw [sm]; exact Nat.le_of_not_lt hL)] at he
            rw [sm] at okn he
            simp -implicitDefEqProofs (disch := omega) only [awl, ne_eq, srcRows, awo, aggEq, eqF, litEq, andO, qwl, qwo, Go.Ab.qOp, lop, oneK, stepOp, pairO, pureOp, heapOp, entry, slotsOf, ev, evL, evP, evO, lk, up, St.put, St.drop, constAV, cellAV, cellsAV, plain, binV, nilCmp, intBin, strBin, guardBit, boolOf, fnOf, intOfAV, bound, resOf, retV, moved, rowOf, valAt, Kd.agg, AV.cells, splice, places, fillAV, rowsFill, Hp.none, ↓reduceIte, reduceCtorEq, Nat.reduceLT, Nat.reduceEqDiff, Nat.reduceAdd, Nat.reduceLeDiff, Nat.reducePow, Nat.reduceMul, Yzz, Xzz, Yzy, tyW, L1, decide_false, List.length_map, List.mem_singleton, forall_eq, eq_true (rows2 rows), hfitp, and_self, if_true, List.length_cons, List.length_nil, Nat.zero_add, Nat.reduceAdd, i64w]
            exact ⟨rows ++ [((ofO x.l, [x.l]) : Pr)], ⟨he, by omega, by simp [hn], okall okn⟩, md_fin hn rfl rfl rfl rfl rfl rfl (by show 0 < 5; decide)⟩
        · have l8 : ((x.l.length : Int) ≤ 8) = False := by simp; omega
          simp -implicitDefEqProofs only [awl, ne_eq, srcRows, awo, aggEq, eqF, litEq, andO, qwl, qwo, Go.Ab.qOp, lop, oneK, stepOp, pairO, pureOp, heapOp, entry, slotsOf, ev, evL, evP, evO, lk, up, St.put, St.drop, constAV, cellAV, cellsAV, plain, binV, nilCmp, intBin, strBin, guardBit, boolOf, fnOf, intOfAV, bound, resOf, retV, moved, rowOf, valAt, Kd.agg, AV.cells, splice, places, fillAV, rowsFill, Hp.none, ↓reduceIte, reduceCtorEq, Nat.reduceLT, Nat.reduceEqDiff, Nat.reduceAdd, Nat.reduceLeDiff, Nat.reducePow, Nat.reduceMul, Yzz, Xzz, Yzy, tyW, e0, l8, decide_false, List.length_map]
          have sm : madeStep rows x = ((none, []) : Pr) := by unfold madeStep; simp only [stp, stq, if_pos k0, if_neg hx8']
          have L1 : (((0 : Nat) : Int) > 300) = False := by simp
          have hL : ¬ ([] : List Sk).length > 300 := by simp
          have okn := madeStep_ok hok x (by rw [sm]; exact Nat.le_of_not_lt hL)
          rw [madeL_go (by omega) (by rw [sm]; exact Nat.le_of_not_lt hL)] at he
          rw [sm] at okn he
          simp -implicitDefEqProofs (disch := omega) only [awl, ne_eq, srcRows, awo, aggEq, eqF, litEq, andO, qwl, qwo, Go.Ab.qOp, lop, oneK, stepOp, pairO, pureOp, heapOp, entry, slotsOf, ev, evL, evP, evO, lk, up, St.put, St.drop, constAV, cellAV, cellsAV, plain, binV, nilCmp, intBin, strBin, guardBit, boolOf, fnOf, intOfAV, bound, resOf, retV, moved, rowOf, valAt, Kd.agg, AV.cells, splice, places, fillAV, rowsFill, Hp.none, ↓reduceIte, reduceCtorEq, Nat.reduceLT, Nat.reduceEqDiff, Nat.reduceAdd, Nat.reduceLeDiff, Nat.reducePow, Nat.reduceMul, Yzz, Xzz, Yzy, tyW, L1, decide_false, List.length_map, List.mem_singleton, forall_eq, eq_true (rows2 rows), hfitp, and_self, if_true, List.length_cons, List.length_nil, Nat.zero_add, Nat.reduceAdd, i64w]
          exact ⟨rows ++ [((none, []) : Pr)], ⟨he, by omega, by simp [hn], okall okn⟩, md_fin hn rfl rfl rfl rfl rfl rfl (by show 0 < 5; decide)⟩
      · have e0 : (x.kind == 0) = false := by simpa using k0
        by_cases k1 : x.kind = 1
        · have e1 : (x.kind == 1) = true := by simpa using k1
          simp -implicitDefEqProofs only [awl, ne_eq, srcRows, awo, aggEq, eqF, litEq, andO, qwl, qwo, Go.Ab.qOp, lop, oneK, stepOp, pairO, pureOp, heapOp, entry, slotsOf, ev, evL, evP, evO, lk, up, St.put, St.drop, constAV, cellAV, cellsAV, plain, binV, nilCmp, intBin, strBin, guardBit, boolOf, fnOf, intOfAV, bound, resOf, retV, moved, rowOf, valAt, Kd.agg, AV.cells, splice, places, fillAV, rowsFill, Hp.none, ↓reduceIte, reduceCtorEq, Nat.reduceLT, Nat.reduceEqDiff, Nat.reduceAdd, Nat.reduceLeDiff, Nat.reducePow, Nat.reduceMul, Yzz, Xzz, Yzy, tyW, e0, e1]
          refine aw_drawC (n := 114) (σ' := ⟨[(18, .lit (.int .i64 (i : Int))), (17, .lit (.int .i64 (l.length : Int))), (16, .vec (l.map encAc) false), (3, .own 0 rows.length), (8, .ptr 4 0)], ⟨[(4, encPr (pushO x.f.1 x.f.2 p.1, pushL x.f p.2))], [(0, ⟨rows.map encPr, 0, 2⟩)], 5⟩, 114⟩) 5 11 (.alt 11 .leaf .nil) rfl (by decide) (by decide) mixed (by kernel_rfl) (by decide) ?_ ?_
          · simp -implicitDefEqProofs only [awl, ne_eq, srcRows, awo, aggEq, eqF, litEq, andO, qwl, qwo, Go.Ab.qOp, lop, oneK, stepOp, pairO, pureOp, heapOp, entry, slotsOf, ev, evL, evP, evO, lk, up, St.put, St.drop, constAV, cellAV, cellsAV, plain, binV, nilCmp, intBin, strBin, guardBit, boolOf, fnOf, intOfAV, bound, resOf, retV, moved, rowOf, valAt, Kd.agg, AV.cells, splice, places, fillAV, rowsFill, Hp.none, ↓reduceIte, reduceCtorEq, Nat.reduceLT, Nat.reduceEqDiff, Nat.reduceAdd, Nat.reduceLeDiff, Nat.reducePow, Nat.reduceMul, Yzz, Xzz, Yzy, tyW]
            refine CallQ_k call22 (Push_spec p.1 x.f.1 x.f.2) (allc (gp_encB _) (allc (.agg (allc (.lit _) (allc (.lit _) alln))) alln)) (gp_encB _) ?_
            simp -implicitDefEqProofs only [awl, ne_eq, srcRows, awo, aggEq, eqF, litEq, andO, qwl, qwo, Go.Ab.qOp, lop, oneK, stepOp, pairO, pureOp, heapOp, entry, slotsOf, ev, evL, evP, evO, lk, up, St.put, St.drop, constAV, cellAV, cellsAV, plain, binV, nilCmp, intBin, strBin, guardBit, boolOf, fnOf, intOfAV, bound, resOf, retV, moved, rowOf, valAt, Kd.agg, AV.cells, splice, places, fillAV, rowsFill, Hp.none, ↓reduceIte, reduceCtorEq, Nat.reduceLT, Nat.reduceEqDiff, Nat.reduceAdd, Nat.reduceLeDiff, Nat.reducePow, Nat.reduceMul, Yzz, Xzz, Yzy, tyW]
            refine CallQ_pure call28 (Push_r p.2 x.f (by have := okp.len; omega) (fun s hs => by have := okp.sks s hs; omega)) (allc (pureBr _) (allc (.agg (pure_encP x.f)) alln)) (pureBr _) ?_
            simp -implicitDefEqProofs only [awl, ne_eq, srcRows, awo, aggEq, eqF, litEq, andO, qwl, qwo, Go.Ab.qOp, lop, oneK, stepOp, pairO, pureOp, heapOp, entry, slotsOf, ev, evL, evP, evO, lk, up, St.put, St.drop, constAV, cellAV, cellsAV, plain, binV, nilCmp, intBin, strBin, guardBit, boolOf, fnOf, intOfAV, bound, resOf, retV, moved, rowOf, valAt, Kd.agg, AV.cells, splice, places, fillAV, rowsFill, Hp.none, ↓reduceIte, reduceCtorEq, Nat.reduceLT, Nat.reduceEqDiff, Nat.reduceAdd, Nat.reduceLeDiff, Nat.reducePow, Nat.reduceMul, Yzz, Xzz, Yzy, tyW, encB, encBr]
            exact St.wk.cp (St.wk_slots1 (by simp [lk]) (by simp [lk, encPr]) (fun t => rfl))
          · simp -implicitDefEqProofs only [awl, ne_eq, srcRows, awo, aggEq, eqF, litEq, andO, qwl, qwo, Go.Ab.qOp, lop, oneK, stepOp, pairO, pureOp, heapOp, entry, slotsOf, ev, evL, evP, evO, lk, up, St.put, St.drop, constAV, cellAV, cellsAV, plain, binV, nilCmp, intBin, strBin, guardBit, boolOf, fnOf, intOfAV, bound, resOf, retV, moved, rowOf, valAt, Kd.agg, AV.cells, splice, places, fillAV, rowsFill, Hp.none, ↓reduceIte, reduceCtorEq, Nat.reduceLT, Nat.reduceEqDiff, Nat.reduceAdd, Nat.reduceLeDiff, Nat.reducePow, Nat.reduceMul, Yzz, Xzz, Yzy, tyW, ep]
            have sm : madeStep rows x = ((pushO x.f.1 x.f.2 p.1, pushL x.f p.2) : Pr) := by unfold madeStep; simp only [stp, stq, if_neg k0, if_pos k1]
            by_cases hL : (pushL x.f p.2 : List Sk).length > 300
            · have L1 : ((((pushL x.f p.2 : List Sk).length : Nat) : Int) > 300) = True := by simp only [eq_iff_iff, iff_true]; omega
              have fin := kexpo_pg (h := ⟨[(4, [encO (pushO x.f.1 x.f.2 p.1), .vec ((pushL x.f p.2 : List Sk).map encR) false])], [(0, ⟨rows.map encPr, 0, 2⟩)], 5⟩) (rows := rows) (fun _ => by first | rfl | exact absurd h0 (by assumption))
              rw [he, madeL_stop (.inr (by rw [sm]; exact hL))]
              simp -implicitDefEqProofs only [awl, ne_eq, srcRows, awo, aggEq, eqF, litEq, andO, qwl, qwo, Go.Ab.qOp, lop, oneK, stepOp, pairO, pureOp, heapOp, entry, slotsOf, ev, evL, evP, evO, lk, up, St.put, St.drop, constAV, cellAV, cellsAV, plain, binV, nilCmp, intBin, strBin, guardBit, boolOf, fnOf, intOfAV, bound, resOf, retV, moved, rowOf, valAt, Kd.agg, AV.cells, splice, places, fillAV, rowsFill, Hp.none, ↓reduceIte, reduceCtorEq, Nat.reduceLT, Nat.reduceEqDiff, Nat.reduceAdd, Nat.reduceLeDiff, Nat.reducePow, Nat.reduceMul, Yzz, Xzz, Yzy, tyW, L1, decide_true, List.length_map]
              rw [pgA, if_neg h0] at fin
              exact fin
            · have L1 : ((((pushL x.f p.2 : List Sk).length : Nat) : Int) > 300) = False := by simp only [eq_iff_iff, iff_false]; omega
              have okn := madeStep_ok hok x (by rw [sm]; exact Nat.le_of_not_lt hL)
              rw [madeL_go (by omega) (by rw [sm]; exact Nat.le_of_not_lt hL)] at he
              rw [sm] at okn he
              simp -implicitDefEqProofs (disch := omega) only [awl, ne_eq, srcRows, awo, aggEq, eqF, litEq, andO, qwl, qwo, Go.Ab.qOp, lop, oneK, stepOp, pairO, pureOp, heapOp, entry, slotsOf, ev, evL, evP, evO, lk, up, St.put, St.drop, constAV, cellAV, cellsAV, plain, binV, nilCmp, intBin, strBin, guardBit, boolOf, fnOf, intOfAV, bound, resOf, retV, moved, rowOf, valAt, Kd.agg, AV.cells, splice, places, fillAV, rowsFill, Hp.none, ↓reduceIte, reduceCtorEq, Nat.reduceLT, Nat.reduceEqDiff, Nat.reduceAdd, Nat.reduceLeDiff, Nat.reducePow, Nat.reduceMul, Yzz, Xzz, Yzy, tyW, L1, decide_false, List.length_map, List.mem_singleton, forall_eq, eq_true (rows2 rows), hfitp, and_self, if_true, i64w]
              exact ⟨rows ++ [((pushO x.f.1 x.f.2 p.1, pushL x.f p.2) : Pr)], ⟨he, by omega, by simp [hn], okall okn⟩, md_fin hn rfl rfl rfl rfl rfl rfl (by show 0 < 5; decide)⟩
        · have e1 : (x.kind == 1) = false := by simpa using k1
          by_cases k2 : x.kind = 2
          · have e2 : (x.kind == 2) = true := by simpa using k2
            simp -implicitDefEqProofs only [awl, ne_eq, srcRows, awo, aggEq, eqF, litEq, andO, qwl, qwo, Go.Ab.qOp, lop, oneK, stepOp, pairO, pureOp, heapOp, entry, slotsOf, ev, evL, evP, evO, lk, up, St.put, St.drop, constAV, cellAV, cellsAV, plain, binV, nilCmp, intBin, strBin, guardBit, boolOf, fnOf, intOfAV, bound, resOf, retV, moved, rowOf, valAt, Kd.agg, AV.cells, splice, places, fillAV, rowsFill, Hp.none, ↓reduceIte, reduceCtorEq, Nat.reduceLT, Nat.reduceEqDiff, Nat.reduceAdd, Nat.reduceLeDiff, Nat.reducePow, Nat.reduceMul, Yzz, Xzz, Yzy, tyW, e0, e1, e2]
            refine aw_drawC (n := 114) (σ' := ⟨[(18, .lit (.int .i64 (i : Int))), (17, .lit (.int .i64 (l.length : Int))), (16, .vec (l.map encAc) false), (3, .own 0 rows.length), (8, .ptr 4 0)], ⟨[(4, encPr (comb p.1 q.1, joinL p.2 q.2))], [(0, ⟨rows.map encPr, 0, 2⟩)], 5⟩, 114⟩) 5 11 (.alt 11 .leaf .nil) rfl (by decide) (by decide) mixed (by kernel_rfl) (by decide) ?_ ?_
            · simp -implicitDefEqProofs only [awl, ne_eq, srcRows, awo, aggEq, eqF, litEq, andO, qwl, qwo, Go.Ab.qOp, lop, oneK, stepOp, pairO, pureOp, heapOp, entry, slotsOf, ev, evL, evP, evO, lk, up, St.put, St.drop, constAV, cellAV, cellsAV, plain, binV, nilCmp, intBin, strBin, guardBit, boolOf, fnOf, intOfAV, bound, resOf, retV, moved, rowOf, valAt, Kd.agg, AV.cells, splice, places, fillAV, rowsFill, Hp.none, ↓reduceIte, reduceCtorEq, Nat.reduceLT, Nat.reduceEqDiff, Nat.reduceAdd, Nat.reduceLeDiff, Nat.reducePow, Nat.reduceMul, Yzz, Xzz, Yzy, tyW]
              refine CallQ_k call20 (Join_spec 536870912 536870912 (by decide) p.1 q.1 okp.wf okq.wf (okp.bd.mono pw) (okq.bd.mono pw)) (allc (gp_encB _) (allc (gp_encB _) alln)) (gp_encB _) ?_
              simp -implicitDefEqProofs only [awl, ne_eq, srcRows, awo, aggEq, eqF, litEq, andO, qwl, qwo, Go.Ab.qOp, lop, oneK, stepOp, pairO, pureOp, heapOp, entry, slotsOf, ev, evL, evP, evO, lk, up, St.put, St.drop, constAV, cellAV, cellsAV, plain, binV, nilCmp, intBin, strBin, guardBit, boolOf, fnOf, intOfAV, bound, resOf, retV, moved, rowOf, valAt, Kd.agg, AV.cells, splice, places, fillAV, rowsFill, Hp.none, ↓reduceIte, reduceCtorEq, Nat.reduceLT, Nat.reduceEqDiff, Nat.reduceAdd, Nat.reduceLeDiff, Nat.reducePow, Nat.reduceMul, Yzz, Xzz, Yzy, tyW]
              refine CallQ_pure call29 (Join_r p.2 q.2 (by have := okp.len; omega) (by have := okq.len; omega) (fun s hs => by have := okp.sks s hs; omega) (fun s hs => by have := okq.sks s hs; omega)) (allc (pureBr _) (allc (pureBr _) alln)) (pureBr _) ?_
              simp -implicitDefEqProofs only [awl, ne_eq, srcRows, awo, aggEq, eqF, litEq, andO, qwl, qwo, Go.Ab.qOp, lop, oneK, stepOp, pairO, pureOp, heapOp, entry, slotsOf, ev, evL, evP, evO, lk, up, St.put, St.drop, constAV, cellAV, cellsAV, plain, binV, nilCmp, intBin, strBin, guardBit, boolOf, fnOf, intOfAV, bound, resOf, retV, moved, rowOf, valAt, Kd.agg, AV.cells, splice, places, fillAV, rowsFill, Hp.none, ↓reduceIte, reduceCtorEq, Nat.reduceLT, Nat.reduceEqDiff, Nat.reduceAdd, Nat.reduceLeDiff, Nat.reducePow, Nat.reduceMul, Yzz, Xzz, Yzy, tyW, encB, encBr]
              exact St.wk.cp (St.wk_slots1 (by simp [lk]) (by simp [lk, encPr]) (fun t => rfl))
            · simp -implicitDefEqProofs only [awl, ne_eq, srcRows, awo, aggEq, eqF, litEq, andO, qwl, qwo, Go.Ab.qOp, lop, oneK, stepOp, pairO, pureOp, heapOp, entry, slotsOf, ev, evL, evP, evO, lk, up, St.put, St.drop, constAV, cellAV, cellsAV, plain, binV, nilCmp, intBin, strBin, guardBit, boolOf, fnOf, intOfAV, bound, resOf, retV, moved, rowOf, valAt, Kd.agg, AV.cells, splice, places, fillAV, rowsFill, Hp.none, ↓reduceIte, reduceCtorEq, Nat.reduceLT, Nat.reduceEqDiff, Nat.reduceAdd, Nat.reduceLeDiff, Nat.reducePow, Nat.reduceMul, Yzz, Xzz, Yzy, tyW, ep]
              have sm : madeStep rows x = ((comb p.1 q.1, joinL p.2 q.2) : Pr) := by unfold madeStep; simp only [stp, stq, if_neg k0, if_neg k1, if_pos k2]
              by_cases hL : (joinL p.2 q.2 : List Sk).length > 300
              · have L1 : ((((joinL p.2 q.2 : List Sk).length : Nat) : Int) > 300) = True := by simp only [eq_iff_iff, iff_true]; omega
                have fin := kexpo_pg (h := ⟨[(4, [encO (comb p.1 q.1), .vec ((joinL p.2 q.2 : List Sk).map encR) false])], [(0, ⟨rows.map encPr, 0, 2⟩)], 5⟩) (rows := rows) (fun _ => by first | rfl | exact absurd h0 (by assumption))
                rw [he, madeL_stop (.inr (by rw [sm]; exact hL))]
                simp -implicitDefEqProofs only [awl, ne_eq, srcRows, awo, aggEq, eqF, litEq, andO, qwl, qwo, Go.Ab.qOp, lop, oneK, stepOp, pairO, pureOp, heapOp, entry, slotsOf, ev, evL, evP, evO, lk, up, St.put, St.drop, constAV, cellAV, cellsAV, plain, binV, nilCmp, intBin, strBin, guardBit, boolOf, fnOf, intOfAV, bound, resOf, retV, moved, rowOf, valAt, Kd.agg, AV.cells, splice, places, fillAV, rowsFill, Hp.none, ↓reduceIte, reduceCtorEq, Nat.reduceLT, Nat.reduceEqDiff, Nat.reduceAdd, Nat.reduceLeDiff, Nat.reducePow, Nat.reduceMul, Yzz, Xzz, Yzy, tyW, L1, decide_true, List.length_map]
                rw [pgA, if_neg h0] at fin
                exact fin
              · have L1 : ((((joinL p.2 q.2 : List Sk).length : Nat) : Int) > 300) = False := by simp only [eq_iff_iff, iff_false]; omega
                have okn := madeStep_ok hok x (by rw [sm]; exact Nat.le_of_not_lt hL)
                rw [madeL_go (by omega) (by rw [sm]; exact Nat.le_of_not_lt hL)] at he
                rw [sm] at okn he
                simp -implicitDefEqProofs (disch := omega) only [awl, ne_eq, srcRows, awo, aggEq, eqF, litEq, andO, qwl, qwo, Go.Ab.qOp, lop, oneK, stepOp, pairO, pureOp, heapOp, entry, slotsOf, ev, evL, evP, evO, lk, up, St.put, St.drop, constAV, cellAV, cellsAV, plain, binV, nilCmp, intBin, strBin, guardBit, boolOf, fnOf, intOfAV, bound, resOf, retV, moved, rowOf, valAt, Kd.agg, AV.cells, splice, places, fillAV, rowsFill, Hp.none, ↓reduceIte, reduceCtorEq, Nat.reduceLT, Nat.reduceEqDiff, Nat.reduceAdd, Nat.reduceLeDiff, Nat.reducePow, Nat.reduceMul, Yzz, Xzz, Yzy, tyW, L1, decide_false, List.length_map, List.mem_singleton, forall_eq, eq_true (rows2 rows), hfitp, and_self, if_true, i64w]
                exact ⟨rows ++ [((comb p.1 q.1, joinL p.2 q.2) : Pr)], ⟨he, by omega, by simp [hn], okall okn⟩, md_fin hn rfl rfl rfl rfl rfl rfl (by show 0 < 5; decide)⟩
          · have e2 : (x.kind == 2) = false := by simpa using k2
            by_cases k3 : x.kind = 3
            · have e3 : (x.kind == 3) = true := by simpa using k3
              simp -implicitDefEqProofs only [awl, ne_eq, srcRows, awo, aggEq, eqF, litEq, andO, qwl, qwo, Go.Ab.qOp, lop, oneK, stepOp, pairO, pureOp, heapOp, entry, slotsOf, ev, evL, evP, evO, lk, up, St.put, St.drop, constAV, cellAV, cellsAV, plain, binV, nilCmp, intBin, strBin, guardBit, boolOf, fnOf, intOfAV, bound, resOf, retV, moved, rowOf, valAt, Kd.agg, AV.cells, splice, places, fillAV, rowsFill, Hp.none, ↓reduceIte, reduceCtorEq, Nat.reduceLT, Nat.reduceEqDiff, Nat.reduceAdd, Nat.reduceLeDiff, Nat.reducePow, Nat.reduceMul, Yzz, Xzz, Yzy, tyW, e0, e1, e2, e3]
              refine aw_drawC (n := 114) (σ' := ⟨[(18, .lit (.int .i64 (i : Int))), (17, .lit (.int .i64 (l.length : Int))), (16, .vec (l.map encAc) false), (3, .own 0 rows.length), (8, .ptr 4 0)], ⟨[(4, encPr (belowO x.f.1 x.f.2 p.1, belowL x.f p.2))], [(0, ⟨rows.map encPr, 0, 2⟩)], 5⟩, 114⟩) 5 11 (.alt 11 .leaf .nil) rfl (by decide) (by decide) mixed (by kernel_rfl) (by decide) ?_ ?_
              · simp -implicitDefEqProofs only [awl, ne_eq, srcRows, awo, aggEq, eqF, litEq, andO, qwl, qwo, Go.Ab.qOp, lop, oneK, stepOp, pairO, pureOp, heapOp, entry, slotsOf, ev, evL, evP, evO, lk, up, St.put, St.drop, constAV, cellAV, cellsAV, plain, binV, nilCmp, intBin, strBin, guardBit, boolOf, fnOf, intOfAV, bound, resOf, retV, moved, rowOf, valAt, Kd.agg, AV.cells, splice, places, fillAV, rowsFill, Hp.none, ↓reduceIte, reduceCtorEq, Nat.reduceLT, Nat.reduceEqDiff, Nat.reduceAdd, Nat.reduceLeDiff, Nat.reducePow, Nat.reduceMul, Yzz, Xzz, Yzy, tyW]
                refine CallQ_k call23 (Below_spec 536870912 (by decide) p.1 okp.wf (okp.bd.mono pw) x.f.1 x.f.2) (allc (gp_encB _) (allc (.agg (allc (.lit _) (allc (.lit _) alln))) alln)) (gp_encB _) ?_
                simp -implicitDefEqProofs only [awl, ne_eq, srcRows, awo, aggEq, eqF, litEq, andO, qwl, qwo, Go.Ab.qOp, lop, oneK, stepOp, pairO, pureOp, heapOp, entry, slotsOf, ev, evL, evP, evO, lk, up, St.put, St.drop, constAV, cellAV, cellsAV, plain, binV, nilCmp, intBin, strBin, guardBit, boolOf, fnOf, intOfAV, bound, resOf, retV, moved, rowOf, valAt, Kd.agg, AV.cells, splice, places, fillAV, rowsFill, Hp.none, ↓reduceIte, reduceCtorEq, Nat.reduceLT, Nat.reduceEqDiff, Nat.reduceAdd, Nat.reduceLeDiff, Nat.reducePow, Nat.reduceMul, Yzz, Xzz, Yzy, tyW]
                refine CallQ_pure call30 (Below_r p.2 x.f (by have := okp.len; omega) (fun s hs => by have := okp.sks s hs; omega)) (allc (pureBr _) (allc (.agg (pure_encP x.f)) alln)) (pureBr _) ?_
                simp -implicitDefEqProofs only [awl, ne_eq, srcRows, awo, aggEq, eqF, litEq, andO, qwl, qwo, Go.Ab.qOp, lop, oneK, stepOp, pairO, pureOp, heapOp, entry, slotsOf, ev, evL, evP, evO, lk, up, St.put, St.drop, constAV, cellAV, cellsAV, plain, binV, nilCmp, intBin, strBin, guardBit, boolOf, fnOf, intOfAV, bound, resOf, retV, moved, rowOf, valAt, Kd.agg, AV.cells, splice, places, fillAV, rowsFill, Hp.none, ↓reduceIte, reduceCtorEq, Nat.reduceLT, Nat.reduceEqDiff, Nat.reduceAdd, Nat.reduceLeDiff, Nat.reducePow, Nat.reduceMul, Yzz, Xzz, Yzy, tyW, encB, encBr]
                exact St.wk.cp (St.wk_slots1 (by simp [lk]) (by simp [lk, encPr]) (fun t => rfl))
              · simp -implicitDefEqProofs only [awl, ne_eq, srcRows, awo, aggEq, eqF, litEq, andO, qwl, qwo, Go.Ab.qOp, lop, oneK, stepOp, pairO, pureOp, heapOp, entry, slotsOf, ev, evL, evP, evO, lk, up, St.put, St.drop, constAV, cellAV, cellsAV, plain, binV, nilCmp, intBin, strBin, guardBit, boolOf, fnOf, intOfAV, bound, resOf, retV, moved, rowOf, valAt, Kd.agg, AV.cells, splice, places, fillAV, rowsFill, Hp.none, ↓reduceIte, reduceCtorEq, Nat.reduceLT, Nat.reduceEqDiff, Nat.reduceAdd, Nat.reduceLeDiff, Nat.reducePow, Nat.reduceMul, Yzz, Xzz, Yzy, tyW, ep]
                have sm : madeStep rows x = ((belowO x.f.1 x.f.2 p.1, belowL x.f p.2) : Pr) := by unfold madeStep; simp only [stp, stq, if_neg k0, if_neg k1, if_neg k2, if_pos k3]
                by_cases hL : (belowL x.f p.2 : List Sk).length > 300
                · have L1 : ((((belowL x.f p.2 : List Sk).length : Nat) : Int) > 300) = True := by simp only [eq_iff_iff, iff_true]; omega
                  have fin := kexpo_pg (h := ⟨[(4, [encO (belowO x.f.1 x.f.2 p.1), .vec ((belowL x.f p.2 : List Sk).map encR) false])], [(0, ⟨rows.map encPr, 0, 2⟩)], 5⟩) (rows := rows) (fun _ => by first | rfl | exact absurd h0 (by assumption))
                  rw [he, madeL_stop (.inr (by rw [sm]; exact hL))]
                  simp -implicitDefEqProofs only [awl, ne_eq, srcRows, awo, aggEq, eqF, litEq, andO, qwl, qwo, Go.Ab.qOp, lop, oneK, stepOp, pairO, pureOp, heapOp, entry, slotsOf, ev, evL, evP, evO, lk, up, St.put, St.drop, constAV, cellAV, cellsAV, plain, binV, nilCmp, intBin, strBin, guardBit, boolOf, fnOf, intOfAV, bound, resOf, retV, moved, rowOf, valAt, Kd.agg, AV.cells, splice, places, fillAV, rowsFill, Hp.none, ↓reduceIte, reduceCtorEq, Nat.reduceLT, Nat.reduceEqDiff, Nat.reduceAdd, Nat.reduceLeDiff, Nat.reducePow, Nat.reduceMul, Yzz, Xzz, Yzy, tyW, L1, decide_true, List.length_map]
                  rw [pgA, if_neg h0] at fin
                  exact fin
                · have L1 : ((((belowL x.f p.2 : List Sk).length : Nat) : Int) > 300) = False := by simp only [eq_iff_iff, iff_false]; omega
                  have okn := madeStep_ok hok x (by rw [sm]; exact Nat.le_of_not_lt hL)
                  rw [madeL_go (by omega) (by rw [sm]; exact Nat.le_of_not_lt hL)] at he
                  rw [sm] at okn he
                  simp -implicitDefEqProofs (disch := omega) only [awl, ne_eq, srcRows, awo, aggEq, eqF, litEq, andO, qwl, qwo, Go.Ab.qOp, lop, oneK, stepOp, pairO, pureOp, heapOp, entry, slotsOf, ev, evL, evP, evO, lk, up, St.put, St.drop, constAV, cellAV, cellsAV, plain, binV, nilCmp, intBin, strBin, guardBit, boolOf, fnOf, intOfAV, bound, resOf, retV, moved, rowOf, valAt, Kd.agg, AV.cells, splice, places, fillAV, rowsFill, Hp.none, ↓reduceIte, reduceCtorEq, Nat.reduceLT, Nat.reduceEqDiff, Nat.reduceAdd, Nat.reduceLeDiff, Nat.reducePow, Nat.reduceMul, Yzz, Xzz, Yzy, tyW, L1, decide_false, List.length_map, List.mem_singleton, forall_eq, eq_true (rows2 rows), hfitp, and_self, if_true, i64w]
                  exact ⟨rows ++ [((belowO x.f.1 x.f.2 p.1, belowL x.f p.2) : Pr)], ⟨he, by omega, by simp [hn], okall okn⟩, md_fin hn rfl rfl rfl rfl rfl rfl (by show 0 < 5; decide)⟩
            · have e3 : (x.kind == 3) = false := by simpa using k3
              by_cases k5 : x.kind = 5
              · have e5 : (x.kind == 5) = true := by simpa using k5
                simp -implicitDefEqProofs only [awl, ne_eq, srcRows, awo, aggEq, eqF, litEq, andO, qwl, qwo, Go.Ab.qOp, lop, oneK, stepOp, pairO, pureOp, heapOp, entry, slotsOf, ev, evL, evP, evO, lk, up, St.put, St.drop, constAV, cellAV, cellsAV, plain, binV, nilCmp, intBin, strBin, guardBit, boolOf, fnOf, intOfAV, bound, resOf, retV, moved, rowOf, valAt, Kd.agg, AV.cells, splice, places, fillAV, rowsFill, Hp.none, ↓reduceIte, reduceCtorEq, Nat.reduceLT, Nat.reduceEqDiff, Nat.reduceAdd, Nat.reduceLeDiff, Nat.reducePow, Nat.reduceMul, Yzz, Xzz, Yzy, tyW, e0, e1, e2, e3, e5]
                refine CallK_k call24 Empty_spec alln (gp_encB emptyO) ?_
                simp -implicitDefEqProofs only [awl, ne_eq, srcRows, awo, aggEq, eqF, litEq, andO, qwl, qwo, Go.Ab.qOp, lop, oneK, stepOp, pairO, pureOp, heapOp, entry, slotsOf, ev, evL, evP, evO, lk, up, St.put, St.drop, constAV, cellAV, cellsAV, plain, binV, nilCmp, intBin, strBin, guardBit, boolOf, fnOf, intOfAV, bound, resOf, retV, moved, rowOf, valAt, Kd.agg, AV.cells, splice, places, fillAV, rowsFill, Hp.none, ↓reduceIte, reduceCtorEq, Nat.reduceLT, Nat.reduceEqDiff, Nat.reduceAdd, Nat.reduceLeDiff, Nat.reducePow, Nat.reduceMul, Yzz, Xzz, Yzy, tyW]
                refine CallK_pure call25 Empty_r alln (pureBr _) ?_
                simp -implicitDefEqProofs only [awl, ne_eq, srcRows, awo, aggEq, eqF, litEq, andO, qwl, qwo, Go.Ab.qOp, lop, oneK, stepOp, pairO, pureOp, heapOp, entry, slotsOf, ev, evL, evP, evO, lk, up, St.put, St.drop, constAV, cellAV, cellsAV, plain, binV, nilCmp, intBin, strBin, guardBit, boolOf, fnOf, intOfAV, bound, resOf, retV, moved, rowOf, valAt, Kd.agg, AV.cells, splice, places, fillAV, rowsFill, Hp.none, ↓reduceIte, reduceCtorEq, Nat.reduceLT, Nat.reduceEqDiff, Nat.reduceAdd, Nat.reduceLeDiff, Nat.reducePow, Nat.reduceMul, Yzz, Xzz, Yzy, tyW, encB, encBr]
                have sm : madeStep rows x = ((emptyO, [[]]) : Pr) := by unfold madeStep; simp only [stp, stq, if_neg k0, if_neg k1, if_neg k2, if_neg k3, if_pos k5]
                have L1 : (((1 : Nat) : Int) > 300) = False := by simp
                have hL : ¬ ([[]] : List Sk).length > 300 := by simp
                have okn := madeStep_ok hok x (by rw [sm]; exact Nat.le_of_not_lt hL)
                rw [madeL_go (by omega) (by rw [sm]; exact Nat.le_of_not_lt hL)] at he
                rw [sm] at okn he
                simp -implicitDefEqProofs (disch := omega) only [awl, ne_eq, srcRows, awo, aggEq, eqF, litEq, andO, qwl, qwo, Go.Ab.qOp, lop, oneK, stepOp, pairO, pureOp, heapOp, entry, slotsOf, ev, evL, evP, evO, lk, up, St.put, St.drop, constAV, cellAV, cellsAV, plain, binV, nilCmp, intBin, strBin, guardBit, boolOf, fnOf, intOfAV, bound, resOf, retV, moved, rowOf, valAt, Kd.agg, AV.cells, splice, places, fillAV, rowsFill, Hp.none, ↓reduceIte, reduceCtorEq, Nat.reduceLT, Nat.reduceEqDiff, Nat.reduceAdd, Nat.reduceLeDiff, Nat.reducePow, Nat.reduceMul, Yzz, Xzz, Yzy, tyW, L1, decide_false, List.length_map, List.mem_singleton, forall_eq, eq_true (rows2 rows), hfitp, and_self, if_true, List.length_cons, List.length_nil, Nat.zero_add, Nat.reduceAdd, i64w]
                exact ⟨rows ++ [((emptyO, [[]]) : Pr)], ⟨he, by omega, by simp [hn], okall okn⟩, md_fin hn rfl rfl rfl rfl rfl rfl (by show 0 < 5; decide)⟩
              · have e5 : (x.kind == 5) = false := by simpa using k5
                simp -implicitDefEqProofs only [awl, ne_eq, srcRows, awo, aggEq, eqF, litEq, andO, qwl, qwo, Go.Ab.qOp, lop, oneK, stepOp, pairO, pureOp, heapOp, entry, slotsOf, ev, evL, evP, evO, lk, up, St.put, St.drop, constAV, cellAV, cellsAV, plain, binV, nilCmp, intBin, strBin, guardBit, boolOf, fnOf, intOfAV, bound, resOf, retV, moved, rowOf, valAt, Kd.agg, AV.cells, splice, places, fillAV, rowsFill, Hp.none, ↓reduceIte, reduceCtorEq, Nat.reduceLT, Nat.reduceEqDiff, Nat.reduceAdd, Nat.reduceLeDiff, Nat.reducePow, Nat.reduceMul, Yzz, Xzz, Yzy, tyW, e0, e1, e2, e3, e5]
                have sm : madeStep rows x = ((none, []) : Pr) := by unfold madeStep; simp only [stp, stq, if_neg k0, if_neg k1, if_neg k2, if_neg k3, if_neg k5]
                have L1 : (((0 : Nat) : Int) > 300) = False := by simp
                have hL : ¬ ([] : List Sk).length > 300 := by simp
                have okn := madeStep_ok hok x (by rw [sm]; exact Nat.le_of_not_lt hL)
                rw [madeL_go (by omega) (by rw [sm]; exact Nat.le_of_not_lt hL)] at he
                rw [sm] at okn he
                simp -implicitDefEqProofs (disch := omega) only [awl, ne_eq, srcRows, awo, aggEq, eqF, litEq, andO, qwl, qwo, Go.Ab.qOp, lop, oneK, stepOp, pairO, pureOp, heapOp, entry, slotsOf, ev, evL, evP, evO, lk, up, St.put, St.drop, constAV, cellAV, cellsAV, plain, binV, nilCmp, intBin, strBin, guardBit, boolOf, fnOf, intOfAV, bound, resOf, retV, moved, rowOf, valAt, Kd.agg, AV.cells, splice, places, fillAV, rowsFill, Hp.none, ↓reduceIte, reduceCtorEq, Nat.reduceLT, Nat.reduceEqDiff, Nat.reduceAdd, Nat.reduceLeDiff, Nat.reducePow, Nat.reduceMul, Yzz, Xzz, Yzy, tyW, L1, decide_false, List.length_map, List.mem_singleton, forall_eq, eq_true (rows2 rows), hfitp, and_self, if_true, List.length_cons, List.length_nil, Nat.zero_add, Nat.reduceAdd, i64w]
                exact ⟨rows ++ [((none, []) : Pr)], ⟨he, by omega, by simp [hn], okall okn⟩, md_fin hn rfl rfl rfl rfl rfl rfl (by show 0 < 5; decide)⟩
  · obtain ⟨he, h30, hn, hok⟩ := hI
    have i1 : ¬ (l.length : Int) < (l.length : Int) := by omega
    rw [he, List.drop_length, madeL]
    have fin := kexpo_pg (h := ⟨[], pgT rows, pgN rows⟩) (rows := rows) (fun h => by simp [pgT, if_neg h, lk])
    simp -implicitDefEqProofs only [awl, ne_eq, srcRows, awo, aggEq, eqF, litEq, andO, qwl, qwo, Go.Ab.qOp, lop, oneK, stepOp, pairO, pureOp, heapOp, entry, slotsOf, ev, evL, evP, evO, lk, up, St.put, St.drop, constAV, cellAV, cellsAV, plain, binV, nilCmp, intBin, strBin, guardBit, boolOf, fnOf, intOfAV, bound, resOf, retV, moved, rowOf, valAt, Kd.agg, AV.cells, splice, places, fillAV, rowsFill, Hp.none, ↓reduceIte, reduceCtorEq, Nat.reduceLT, Nat.reduceEqDiff, Nat.reduceAdd, Nat.reduceLeDiff, Nat.reducePow, Nat.reduceMul, Yzz, Xzz, Yzy, tyW, mdS, i1, decide_false]
    exact fin
end Go.Proofs.Ytfnmdmadaljjkaa
end
