/- Functions that only read, make, and ask and write caches. Conditions: those that each theorem names. -/
import Derived.Test.YtfnmdmadaljjkaaCch2
set_option linter.unusedVariables false
set_option linter.unusedSimpArgs false
namespace Go.Ab
section
variable {P : Program}
def KCall (P : Program) (f : FuncId) (args : List AV) (r : AV) : Prop := QCall P f args .none r
theorem KCall.at {f : FuncId} {args : List AV} {r : AV} (h : KCall P f args r) (ha : ∀ a ∈ args, GP a) (hr : GP r) (H : Hp) : QCall P f args H r :=
  QCall.sub (hs := .none) (r0 := r) (av := args) [] rfl List.nodup_nil (fun x hx => by cases hx) (GP.rnL ha) (fun p hp => by cases hp) (fun p hp => by cases hp) (fun i hi => absurd hi (Nat.not_lt_zero _)) h hr.rn
theorem CallK_k {σ : St} {f : FuncId} {args : List AV} {r : AV} {d : Option Tmp} {K : St → Prop} (hc : Callable P f) (h : KCall P f args r) (ha : ∀ a ∈ args, GP a) (hr : GP r) (hk : K (σ.put d r)) : CallK P f args σ d K :=
  CallK_of hc (h.at ha hr σ.hp) fun r' h' e => by obtain ⟨rfl, rfl⟩ := e; exact hk
theorem CallQ_k {σ : St} {f : FuncId} {args : List AV} {r : AV} {d : Option Tmp} {K : St → Prop} (hc : Callable P f) (h : KCall P f args r) (ha : ∀ a ∈ args, GP a) (hr : GP r) (hk : K (σ.put d r)) : CallQ P f args σ d K :=
  CallQ_intro hc (h.at ha hr σ.hp) hk
theorem KCall.of_pure {f : FuncId} {args : List AV} {r : AV} (h : PCall P f args r) (ha : ∀ a ∈ args, Pure a) (hr : Pure r) : KCall P f args r := SCall_pure h ha hr _

/-- What a result becomes when its owner has gone, and caches stay. -/
def KExpo (h : Hp) (r' r : AV) : Prop := St.cp 0 ⟨[(0, r')], h, 1⟩ ⟨[(0, r)], .none, 1⟩
theorem KCall_of {f : FuncId} {args : List AV} {r : AV} (h : SCall P f args .none fun r' h' => KExpo h' r' r) : KCall P f args r :=
  SCall.told h fun r' h' e => ⟨r, .none, e, rfl, rfl⟩
theorem kexpo {h : Hp} {r : AV} (hr : GP r) : KExpo h r r :=
  St.cp_drop (σ' := ⟨[(0, r)], .none, 1⟩) (Nat.zero_le _) rfl (fun p hp => by rcases List.mem_singleton.1 hp with rfl; exact ⟨rfl, hr.rn⟩) (fun p hp => by cases hp) (fun p hp => by cases hp)
theorem KExpo.wk {h h' : Hp} {r r' r'' : AV} (hw : St.wk ⟨[(0, r)], h, 1⟩ ⟨[(0, r')], h', 1⟩) (k : KExpo h' r' r'') : KExpo h r r'' := St.cp.trans hw.cp k
/-- A result that points to a variable that stays. -/
theorem kexpo_box {h : Hp} {id : Nat} {cs : List AV} (hk : lk h.boxes id = some cs) (hc : ∀ c ∈ cs, GP c) : KExpo h (.ptr id 0) (.np cs) := by
  refine KExpo.wk (h' := ⟨[], [], h.nx⟩) (St.wk_box (id := id) (cs := cs) hk rfl rfl (fun g g' x c p hp => ?_) (fun g g' x c p hp => by cases hp) (fun g p hp => by cases hp)) (kexpo (.np hc))
  rcases List.mem_singleton.1 hp with rfl
  exact ⟨_, rfl, c⟩
theorem kexpo_box1 {h : Hp} {id : Nat} {cs : List AV} (hk : lk h.boxes id = some cs) (hc : ∀ c ∈ cs, GP c) : KExpo h (.agg [.ptr id 0]) (.agg [.np cs]) := by
  refine KExpo.wk (h' := ⟨[], [], h.nx⟩) (St.wk_box (id := id) (cs := cs) hk rfl rfl (fun g g' x c p hp => ?_) (fun g g' x c p hp => by cases hp) (fun g p hp => by cases hp)) (kexpo (.agg (by intro a ha; rcases List.mem_singleton.1 ha with rfl; exact .np hc)))
  rcases List.mem_singleton.1 hp with rfl
  exact ⟨_, rfl, cv_agg (cvL_cons c cvL_nil)⟩
end
end Go.Ab
