/- Arguments told otherwise ahead of a call, and states told otherwise behind a body. Conditions: those that each theorem names. -/
import Derived.Test.YtfnmdmadaljjkaaDraw2
set_option linter.unusedVariables false
set_option linter.unusedSimpArgs false
namespace Go.Ab
section
variable {P : Program} {g0 : Gh} {h0 : Hp} {w0 : World} {σ : St} {g : Gh} {w : World} {a : Act} {o : Oper}

theorem SCall.conv {f : FuncId} {args args1 : List AV} {h h1 : Hp} {Q : AV → Hp → Prop} (hs : ∀ g w, HRel g h w → ∃ g1, Step1 g h w g1 h1 w ∧ CvL g g1 args args1) (hc : SCall P f args1 h1 Q) : SCall P f args h Q := by
  intro g w vals r hv
  obtain ⟨g1, s, c⟩ := hs g w r
  refine (hc g1 w vals s.hp (c _ hv)).mono fun e w' ⟨v, r', h', g', e1, e2, e3, e4⟩ => ⟨v, r', h', g', e1, e2, s.trans e3, e4⟩

theorem SCall.cv {f : FuncId} {args args1 : List AV} {h : Hp} {Q : AV → Hp → Prop} (hs : ∀ g, CvL g g args args1) (hc : SCall P f args1 h Q) : SCall P f args h Q :=
  hc.conv fun g w r => ⟨g, .refl r, hs g⟩

theorem CallK.cv {f : FuncId} {args args1 : List AV} {d : Option Tmp} {K : St → Prop} (hs : ∀ g, CvL g g args args1) (hc : CallK P f args1 σ d K) : CallK P f args σ d K :=
  ⟨hc.1, hc.2.cv hs⟩
theorem CallQ.cv {f : FuncId} {args args1 : List AV} {d : Option Tmp} {K : St → Prop} (hs : ∀ g, CvL g g args args1) (hc : CallQ P f args1 σ d K) : CallQ P f args σ d K := by
  obtain ⟨v, h1, h2⟩ := hc.2
  exact ⟨hc.1, v, SCall.cv hs h1, h2⟩

/-- An owned argument is handed over as a row that stays. -/
theorem CallK.freeze {f : FuncId} {args args1 : List AV} {d : Option Tmp} {K : St → Prop} {t : Nat} {k : Tk} (hk : lk σ.hp.toks t = some k)
    (hs : ∀ g g', Ext g g' → Cv g g' (.own t k.xs.length) (.vec k.xs false) → CvL g g' args args1)
    (hc : CallK P f args1 { σ with hp := { σ.hp with toks := up σ.hp.toks t ⟨k.xs, k.xs.length, k.s⟩ } } d K) : CallK P f args σ d K := by
  refine ⟨hc.1, SCall.conv (fun g w r => ?_) hc.2⟩
  obtain ⟨g', s, c, _⟩ := Step1.freeze r hk
  exact ⟨g', s, hs g g' s.ext c⟩

theorem Step1.conv {h h' h'' : Hp} {g' : Gh} (r : HRel g h w) (s : Step1 g h w g' h' w) (hn : h''.nx = h'.nx) (h2 : ∀ p ∈ h''.boxes, ∃ cs, lk h'.boxes p.1 = some cs ∧ CvL g' g' cs p.2)
    (h3 : ∀ p ∈ h''.toks, ∃ k, lk h'.toks p.1 = some k ∧ TkCv g' k p.2) : Step1 g h w g' h'' w := by
  have f : FRel g h w ⟨[], h, 0⟩ g w { tmps := #[], defers := [] } := ⟨.refl r, fun s v e => (nomatch e), rfl, rfl⟩
  exact (FRel.conv (σ' := ⟨[], h'', 0⟩) f s hn rfl (fun p hp => by cases hp) h2 h3).st

/-- The heap is told otherwise ahead of a call. -/
theorem CallK.conv {f : FuncId} {args : List AV} {d : Option Tmp} {K : St → Prop} (h'' : Hp) (hn : h''.nx = σ.hp.nx) (h2 : ∀ g, ∀ p ∈ h''.boxes, ∃ cs, lk σ.hp.boxes p.1 = some cs ∧ CvL g g cs p.2)
    (h3 : ∀ g, ∀ p ∈ h''.toks, ∃ k, lk σ.hp.toks p.1 = some k ∧ TkCv g k p.2) (hc : CallK P f args { σ with hp := h'' } d K) : CallK P f args σ d K :=
  ⟨hc.1, SCall.conv (fun g w r => ⟨g, Step1.conv r (.refl r) hn (h2 g) (h3 g), cvL_refl (.refl g) args⟩) hc.2⟩

/-- An owned slice stays from now on, and the heap is told so. -/
theorem CallK.freezeC {f : FuncId} {args : List AV} {d : Option Tmp} {K : St → Prop} {t : Nat} {k : Tk} (hk : lk σ.hp.toks t = some k) (h'' : Hp) (hn : h''.nx = σ.hp.nx)
    (h2 : ∀ g, Cv g g (.own t k.xs.length) (.vec k.xs false) → ∀ p ∈ h''.boxes, ∃ cs, lk σ.hp.boxes p.1 = some cs ∧ CvL g g cs p.2)
    (h3 : ∀ g, ∀ p ∈ h''.toks, ∃ k', lk (up σ.hp.toks t ⟨k.xs, k.xs.length, k.s⟩) p.1 = some k' ∧ TkCv g k' p.2) (hc : CallK P f args { σ with hp := h'' } d K) : CallK P f args σ d K := by
  refine ⟨hc.1, SCall.conv (fun g w r => ?_) hc.2⟩
  obtain ⟨g', s, c, ht'⟩ := Step1.freeze r hk
  have c' : Cv g' g' (.own t k.xs.length) (.vec k.xs false) := fun v hv => by
    refine c v ?_
    cases hv with
    | own p1 p2 =>
      refine .own (r.tok_lt hk |> fun q => by rw [r.nx]; exact q) (fun b' c1 m e => ?_)
      exact p2 b' c1 m (by rw [ht']; exact e)
  exact ⟨g', Step1.conv r s hn (h2 g' c') (h3 g'), cvL_refl s.ext args⟩

theorem cvL_full {g : Gh} {xs : List (List AV)} {f : Bool} {as bs : List AV} (k : CvL g g as bs) : CvL g g (.vec xs f :: as) (.vec xs false :: bs) := cvL_cons (cv_full (.refl g) xs f) k
theorem cvL_same {g : Gh} {x : AV} {as bs : List AV} (k : CvL g g as bs) : CvL g g (x :: as) (x :: bs) := cvL_cons (cv_refl (.refl g) x) k

theorem Expo.cv {h : Hp} {r1 r2 r : AV} (hs : ∀ g, Cv g g r1 r2) (k : Expo h r2 r) : Expo h r1 r := fun g w v rel hv => k g w v rel (hs g v hv)
theorem expo_full {h : Hp} {xs : List (List AV)} {f : Bool} (hp : ∀ x ∈ xs, ∀ c ∈ x, Pure c) : Expo h (.vec xs f) (.vec xs false) := Expo.cv (fun g => cv_full (.refl g) xs f) (expo_pure (.vec hp))

/-- A body whose last state may be told otherwise. -/
def retW (P : Program) (rs : List ResultVar) (R : AV → Hp → Prop) : Exit → St → Prop
  | .normal, σ => ∃ σ', St.wk σ σ' ∧ resK (resOf P σ' rs) R σ'.hp
  | .ret, σ => ∃ σ', St.wk σ σ' ∧ resK (resOf P σ' rs) R σ'.hp
  | _, _ => False
theorem Xbx {rs : List ResultVar} {R : AV → Hp → Prop} : retW P rs R .normal σ = ∃ σ', St.wk σ σ' ∧ resK (resOf P σ' rs) R σ'.hp := rfl
theorem Xby {rs : List ResultVar} {R : AV → Hp → Prop} : retW P rs R .ret σ = ∃ σ', St.wk σ σ' ∧ resK (resOf P σ' rs) R σ'.hp := rfl

theorem SCall_introW {f : FuncId} {fn : Func} {c : Code} {args : List AV} {h : Hp} {Q : AV → Hp → Prop} (hf : P.funcs[f]? = some fn) (hb : fn.body = some c) {n : Nat} (hnt : fn.ntmps = n) {rs : List ResultVar} (hrs : fn.results.toList = rs) (hn : args.length ≤ n)
    (hw : awp P c (retW P rs Q) (entry args h n)) : SCall P f args h Q := by
  subst hnt; subst hrs
  intro g w vals hr hl
  have hs : vals.size = args.length := by simpa using hl.1
  refine calls_of_wp hf hb (wp_mono (awp_sound c hw g h w g w _ (FRel.entry hr hl fn.ntmps hn)) fun e a' w' hh => ?_)
  obtain ⟨σ, g', q1, q2⟩ := hh
  have fin : (∃ σ', St.wk σ σ' ∧ resK (resOf P σ' fn.results.toList) Q σ'.hp) → a'.defers = [] ∧ ∃ v, (results fn a'.tmps).run P w' = .ok v w' ∧ ∃ v' r h' g', Ending.returned v = .returned v' ∧ Rep g' v' r ∧ Step1 g h w g' h' w' ∧ Q r h' := fun ⟨σ', hw', hb⟩ => by
    obtain ⟨g2, q3⟩ := hw' g h w g' w' a' q2
    obtain ⟨vs, k1, k2⟩ := resK_elim hb
    obtain ⟨u, e1, e2⟩ := results_sound q3 k1
    exact ⟨q3.defers, u, e1, u, _, _, g2, rfl, e2, q3.st, k2⟩
  cases e with
  | normal => exact fin q1
  | ret => exact fin q1
  | exit id => exact q1.elim
  | goto id => exact q1.elim
  | panic v => exact q1.elim
  | outgrown => exact q1.elim

theorem aw_quietN {Q : Exit → St → Prop} {id : Nat} {l : List Oper} {n : Nat} (hn : σ.nt = n) (hB : statB l.toArray n l.length = true) (hm : P.follows .mixedOrders = true) (h : qwl P l.toArray l (Q .normal) σ) : Aw P (.region id l.toArray true) Q σ :=
  aw_quiet (by rw [hn]; exact hB) hm h
theorem aw_drawN {Q : Exit → St → Prop} {σ σ' : St} {id : Nat} {l : List Oper} {n : Nat} (p : Nat) (t : OT) (hn : σ.nt = n) (hB : statB l.toArray n p = true) (hT : statT l.toArray p = true) (hm : P.follows .mixedOrders = true)
    (hok : okT l.toArray t (Array.ofFn fun j : Fin l.length => decide (j.val < p)) none = true) (hd : decide (p + t.depth ≤ l.length) = true)
    (h : qwl P l.toArray (l.take p) (walkT P l.toArray t fun σ1 => St.wk σ1 σ') σ) (k : Q .normal σ') : Aw P (.region id l.toArray true) Q σ :=
  aw_draw p t (by rw [hn]; exact hB) hT hm hok hd h k

theorem CallK_of {f : FuncId} {args : List AV} {d : Option Tmp} {K : St → Prop} {Q : AV → Hp → Prop} (hc : Callable P f) (h : SCall P f args σ.hp Q) (hk : ∀ r h', Q r h' → K ({ σ with hp := h' }.put d r)) : CallK P f args σ d K :=
  ⟨hc, h.mono hk⟩
end
end Go.Ab
