/- The program's plain types: guards, elements, alternatives, rules, grammars: how they lie in memory, and that what is read is one of them, no greater than its bulk. Conditions: those that each theorem names. -/
import Derived.Test.YtogdlomemaoajaaTy
import Derived.Test.YtogdlomemaoajaaSub
import Derived.Test.YtogdlomemaoajaaNil
import Derived.Test.YtogdlomemaoajaaCp
import Derived.Test.YtogdlomemaoajaaLaw
import Derived.Test.YtogdlomemaoajaaDrawL
import Derived.Test.YtogdlomemaoajaaThaw
namespace Go.Proofs.Ytogdlomemaoajaa
open Go Go.Ab
set_option linter.unusedSimpArgs false
set_option linter.unusedVariables false
set_option maxRecDepth 20000

theorem i64w {n : Int} (h : -9223372036854775808 ≤ n) (k : n ≤ 9223372036854775807) : IntKind.i64.wrap n = n := IntWalk.i64_in n ⟨h, k⟩
theorem mixed : Try.prog.follows .mixedOrders = true := by decide

theorem ret1 {σ : St} {h : Hp} {v : AV} {N : Nat} (t : Nat) (ho : Own h) (hN : h.nx = N) (hle : N ≤ σ.hp.nx) (hv : lk σ.slots t = some v) (hp : Rn id N v v) (hb : ∀ p ∈ h.boxes, lk σ.hp.boxes p.1 = some p.2) (ht : ∀ p ∈ h.toks, lk σ.hp.toks p.1 = some p.2) :
    ∃ σ', St.cp N σ σ' ∧ resK (resOf Try.prog σ' [.tmp t]) (fun r h' => r = v ∧ h' = h) σ'.hp := retC_one t ho hN hle hv hp hb ht

inductive Gd where
  | mk (op n : Int) (name : ByteArray) (kids : List Gd)
inductive El where
  | mk (op : Int) (name : ByteArray) (set : List (Int × Int)) (lz : Bool) (g : Gd) (kids : List El) (level place : Int)
structure Cm where
  op : Int
  name : ByteArray
  place : Int
structure Al where
  e : El
  right : Bool
  cmds : List Cm
  place : Int
structure Rl where
  name : ByteArray
  frag : Bool
  mode : ByteArray
  alts : List Al
  file : Int
  place : Int
structure Wd where
  name : ByteArray
  file : Int
  place : Int
structure Gr where
  name : Wd
  imports : List Wd
  channels : List Wd
  tokens : List Wd
  modes : List Wd
  rules : List Rl

mutual
def encG : Gd → List AV
  | .mk op n name kids => [.lit (.int .i8 op), .lit (.int .i64 n), .lit (.string name), .vec (encGs kids) false]
def encGs : List Gd → List (List AV)
  | [] => []
  | g :: l => encG g :: encGs l
end
def encR (p : Int × Int) : List AV := [.lit (.int .i32 p.1), .lit (.int .i32 p.2)]
mutual
def encE : El → List AV
  | .mk op name set lz (.mk gop gn gname gkids) kids level place => [.lit (.int .i8 op), .lit (.string name), .vec (set.map encR) false, .lit (.bool lz), .lit (.int .i8 gop), .lit (.int .i64 gn), .lit (.string gname), .vec (encGs gkids) false, .vec (encEs kids) false, .lit (.int .i64 level), .lit (.int .i64 place)]
def encEs : List El → List (List AV)
  | [] => []
  | e :: l => encE e :: encEs l
end
def encC (c : Cm) : List AV := [.lit (.int .i8 c.op), .lit (.string c.name), .lit (.int .i64 c.place)]
def encA : Al → List AV
  | ⟨.mk op name set lz (.mk gop gn gname gkids) kids level place, right, cmds, pl⟩ => [.lit (.int .i8 op), .lit (.string name), .vec (set.map encR) false, .lit (.bool lz), .lit (.int .i8 gop), .lit (.int .i64 gn), .lit (.string gname), .vec (encGs gkids) false, .vec (encEs kids) false, .lit (.int .i64 level), .lit (.int .i64 place),
      .lit (.bool right), .vec (cmds.map encC) false, .lit (.int .i64 pl)]
def encRl (r : Rl) : List AV := [.lit (.string r.name), .lit (.bool r.frag), .lit (.string r.mode), .vec (r.alts.map encA) false, .lit (.int .i64 r.file), .lit (.int .i64 r.place)]
def encW (w : Wd) : List AV := [.lit (.string w.name), .lit (.int .i64 w.file), .lit (.int .i64 w.place)]
def encGr (g : Gr) : List AV := [.lit (.string g.name.name), .lit (.int .i64 g.name.file), .lit (.int .i64 g.name.place), .vec (g.imports.map encW) false, .vec (g.channels.map encW) false, .vec (g.tokens.map encW) false, .vec (g.modes.map encW) false, .vec (g.rules.map encRl) false]

theorem encGs_map (l : List Gd) : encGs l = l.map encG := by induction l with | nil => rfl | cons x l ih => simp [encGs, ih]
theorem encEs_map (l : List El) : encEs l = l.map encE := by induction l with | nil => rfl | cons x l ih => simp [encEs, ih]
theorem encGs_length (l : List Gd) : (encGs l).length = l.length := by simp [encGs_map]
theorem encEs_length (l : List El) : (encEs l).length = l.length := by simp [encEs_map]
theorem encG_length (g : Gd) : (encG g).length = 4 := by cases g; rfl
theorem encE_length (e : El) : (encE e).length = 11 := by rcases e with ⟨a, b, c, d, ⟨x, y, z, u⟩, f, g, h⟩; rfl
theorem encA_length (a : Al) : (encA a).length = 14 := by rcases a with ⟨⟨a, b, c, d, ⟨x, y, z, u⟩, f, g, h⟩, p, q, r⟩; rfl
theorem encA_eq (a : Al) : encA a = encE a.e ++ [.lit (.bool a.right), .vec (a.cmds.map encC) false, .lit (.int .i64 a.place)] := by rcases a with ⟨⟨a, b, c, d, ⟨x, y, z, u⟩, f, g, h⟩, p, q, r⟩; rfl
theorem encRl_length (r : Rl) : (encRl r).length = 6 := rfl
theorem encGr_length (g : Gr) : (encGr g).length = 8 := rfl
theorem encG_take (g : Gd) : (encG g).take 4 = encG g := by cases g; rfl
theorem encE_take (e : El) : (encE e).take 11 = encE e := List.take_of_length_le (by rw [encE_length]; exact Nat.le_refl _)
theorem encA_take (a : Al) : (encA a).take 14 = encA a := List.take_of_length_le (by rw [encA_length]; exact Nat.le_refl _)
theorem encRl_take (r : Rl) : (encRl r).take 6 = encRl r := rfl
theorem encGr_take (g : Gr) : (encGr g).take 8 = encGr g := rfl

/-- A row of a table. -/
theorem map_getD {T : Type} (f : T → List AV) {l : List T} {i : Nat} {x : T} (h : l[i]? = some x) : (l.map f).getD i [] = f x := by simp [List.getD_eq_getElem?_getD, h]
theorem encEs_getD {l : List El} {i : Nat} {x : El} (h : l[i]? = some x) : (encEs l).getD i [] = encE x := by rw [encEs_map]; exact map_getD _ h
theorem encGs_getD {l : List Gd} {i : Nat} {x : Gd} (h : l[i]? = some x) : (encGs l).getD i [] = encG x := by rw [encGs_map]; exact map_getD _ h

theorem pure_lits {l : List AV} (h : ∀ a ∈ l, ∃ v, a = .lit v) : ∀ a ∈ l, Pure a := fun a ha => by obtain ⟨v, rfl⟩ := h a ha; exact .lit v
theorem pure_rows {T : Type} {f : T → List AV} (h : ∀ t, ∀ c ∈ f t, Pure c) (l : List T) : ∀ x ∈ l.map f, ∀ c ∈ x, Pure c := fun x hx => by
  obtain ⟨t, _, rfl⟩ := List.mem_map.1 hx; exact h t
theorem pure_encG (g : Gd) : ∀ c ∈ encG g, Pure c := by
  match g with
  | .mk op n name kids =>
    intro c hc
    simp only [encG, List.mem_cons, List.not_mem_nil, or_false] at hc
    rcases hc with rfl | rfl | rfl | rfl
    iterate 3 exact .lit _
    refine .vec fun x hx => ?_
    rw [encGs_map] at hx
    obtain ⟨k, hk, rfl⟩ := List.mem_map.1 hx
    exact pure_encG k
termination_by SizeOf.sizeOf g
decreasing_by simp_wf; have := List.sizeOf_lt_of_mem hk; omega
theorem pure_encGs (l : List Gd) : ∀ x ∈ encGs l, ∀ c ∈ x, Pure c := by rw [encGs_map]; exact pure_rows pure_encG l
theorem pure_encR (p : Int × Int) : ∀ c ∈ encR p, Pure c := pure_lits (by simp [encR])
theorem pure_encE (e : El) : ∀ c ∈ encE e, Pure c := by
  match e with
  | .mk op name set lz (.mk gop gn gname gkids) kids level place =>
    intro c hc
    simp only [encE, List.mem_cons, List.not_mem_nil, or_false] at hc
    rcases hc with rfl | rfl | rfl | rfl | rfl | rfl | rfl | rfl | rfl | rfl | rfl
    · exact .lit _
    · exact .lit _
    · exact .vec (pure_rows pure_encR set)
    iterate 4 exact .lit _
    · exact .vec (pure_encGs gkids)
    · refine .vec fun x hx => ?_
      rw [encEs_map] at hx
      obtain ⟨k, hk, rfl⟩ := List.mem_map.1 hx
      exact pure_encE k
    · exact .lit _
    · exact .lit _
termination_by SizeOf.sizeOf e
decreasing_by simp_wf; have := List.sizeOf_lt_of_mem hk; omega
theorem pure_encEs (l : List El) : ∀ x ∈ encEs l, ∀ c ∈ x, Pure c := by rw [encEs_map]; exact pure_rows pure_encE l
theorem pure_encC (c : Cm) : ∀ x ∈ encC c, Pure x := pure_lits (by simp [encC])
theorem pure_encA (a : Al) : ∀ c ∈ encA a, Pure c := by
  rw [encA_eq]
  intro c hc
  rcases List.mem_append.1 hc with h | h
  · exact pure_encE _ c h
  · simp only [List.mem_cons, List.not_mem_nil, or_false] at h
    rcases h with rfl | rfl | rfl
    · exact .lit _
    · exact .vec (pure_rows pure_encC _)
    · exact .lit _
theorem pure_encRl (r : Rl) : ∀ c ∈ encRl r, Pure c := by
  intro c hc
  simp only [encRl, List.mem_cons, List.not_mem_nil, or_false] at hc
  rcases hc with rfl | rfl | rfl | rfl | rfl | rfl
  iterate 3 exact .lit _
  · exact .vec (pure_rows pure_encA _)
  iterate 2 exact .lit _
theorem pure_encW (w : Wd) : ∀ x ∈ encW w, Pure x := pure_lits (by simp [encW])
theorem pure_encGr (g : Gr) : ∀ c ∈ encGr g, Pure c := by
  intro c hc
  simp only [encGr, List.mem_cons, List.not_mem_nil, or_false] at hc
  rcases hc with rfl | rfl | rfl | rfl | rfl | rfl | rfl | rfl
  iterate 3 exact .lit _
  iterate 4 exact .vec (pure_rows pure_encW _)
  exact .vec (pure_rows pure_encRl _)
theorem pureE (e : El) : Pure (.agg (encE e)) := .agg (pure_encE e)
theorem pureG (g : Gd) : Pure (.agg (encG g)) := .agg (pure_encG g)
theorem pureA (a : Al) : Pure (.agg (encA a)) := .agg (pure_encA a)
theorem pureRl (r : Rl) : Pure (.agg (encRl r)) := .agg (pure_encRl r)
theorem pureGr (g : Gr) : Pure (.agg (encGr g)) := .agg (pure_encGr g)

/-! Sizes. -/
mutual
def gsz : Gd → Nat
  | .mk _ _ _ kids => 1 + gszs kids
def gszs : List Gd → Nat
  | [] => 0
  | g :: l => gsz g + gszs l
end
mutual
def esz : El → Nat
  | .mk _ _ set _ g kids _ _ => 1 + set.length + gsz g + eszs kids
def eszs : List El → Nat
  | [] => 0
  | e :: l => esz e + eszs l
end
def asz (a : Al) : Nat := 1 + esz a.e + a.cmds.length
def rsz (r : Rl) : Nat := 1 + (r.alts.map asz).sum
def grsz (g : Gr) : Nat := 1 + g.imports.length + g.channels.length + g.tokens.length + g.modes.length + (g.rules.map rsz).sum
theorem gszs_sum (l : List Gd) : gszs l = (l.map gsz).sum := by induction l with | nil => rfl | cons x l ih => simp [gszs, ih]
theorem eszs_sum (l : List El) : eszs l = (l.map esz).sum := by induction l with | nil => rfl | cons x l ih => simp [eszs, ih]
theorem sum_mem {l : List Nat} {x : Nat} (h : x ∈ l) : x ≤ l.sum := by
  induction l with
  | nil => cases h
  | cons y l ih =>
    simp only [List.sum_cons]
    rcases List.mem_cons.1 h with rfl | h
    · omega
    · have := ih h; omega
theorem sum_len {T : Type} (f : T → Nat) (h : ∀ t, 1 ≤ f t) (l : List T) : l.length ≤ (l.map f).sum := by
  induction l with
  | nil => simp
  | cons x l ih => have := h x; simp only [List.length_cons, List.map_cons, List.sum_cons]; omega
theorem gsz_pos (g : Gd) : 1 ≤ gsz g := by cases g; simp only [gsz]; omega
theorem esz_pos (e : El) : 1 ≤ esz e := by cases e; simp only [esz]; omega
theorem asz_pos (a : Al) : 1 ≤ asz a := by simp only [asz]; omega
theorem rsz_pos (r : Rl) : 1 ≤ rsz r := by simp only [rsz]; omega
theorem gszs_mem {l : List Gd} {g : Gd} (h : g ∈ l) : gsz g ≤ gszs l := by rw [gszs_sum]; exact sum_mem (List.mem_map_of_mem h)
theorem eszs_mem {l : List El} {e : El} (h : e ∈ l) : esz e ≤ eszs l := by rw [eszs_sum]; exact sum_mem (List.mem_map_of_mem h)
theorem gszs_len (l : List Gd) : l.length ≤ gszs l := by rw [gszs_sum]; exact sum_len _ gsz_pos l
theorem eszs_len (l : List El) : l.length ≤ eszs l := by rw [eszs_sum]; exact sum_len _ esz_pos l
theorem asz_mem {l : List Al} {a : Al} (h : a ∈ l) : asz a ≤ (l.map asz).sum := sum_mem (List.mem_map_of_mem h)
theorem rsz_mem {l : List Rl} {a : Rl} (h : a ∈ l) : rsz a ≤ (l.map rsz).sum := sum_mem (List.mem_map_of_mem h)

section
variable {H : Type} {en : TypeId × Value → H} {W : World}
theorem Rd.slice' {n : Nat} {t e : TypeId} {ti te : TI} (h : tyOf Try.prog t = some ti) (hk : ti.kd = .sl e) (he : tyOf Try.prog e = some te) (hpos : 0 < te.size) {T : Type} {f : T → List AV} {sz : T → Nat}
    (hE : ∀ k, k < n → Rd en Try.prog W k e (fun av m => ∃ t : T, av = f t ∧ sz t ≤ m)) :
    Rd en Try.prog W n t (fun av m => ∃ l : List T, av = [.vec (l.map f) false] ∧ (l.map sz).sum + 1 ≤ m ∧ l.length + 1 ≤ m) := by
  cases n with
  | zero => exact .zero
  | succ n =>
    refine (Rd.slice h hk he hpos (hE n (Nat.lt_succ_self n))).mono ?_
    rintro av m ⟨l, rfl, h1, h2, _⟩
    obtain ⟨ts, h3, h4⟩ := rows_of (f := f) (sz := sz) (fun a m h => h) l (fun p hp => (h1 p hp).1)
    have hl : l.length = ts.length := by have := congrArg List.length h3; simpa using this
    have h5 : l.length ≤ (l.map (·.2)).sum := by
      have : ∀ l : List (List AV × Nat), (∀ p ∈ l, 1 ≤ p.2) → l.length ≤ (l.map (·.2)).sum := by
        intro l
        induction l with
        | nil => intro _; simp
        | cons x l ih => intro hh; have := ih (fun p hp => hh p (by simp [hp])); have := hh x (by simp); simp only [List.length_cons, List.map_cons, List.sum_cons]; omega
      exact this l (fun p hp => (h1 p hp).2.1)
    exact ⟨ts, by rw [h3], by omega, by omega⟩
theorem Rd.struct' {n : Nat} {t : TypeId} {ti : TI} (h : tyOf Try.prog t = some ti) {fs : List (Nat × TypeId)} (hk : ti.kd = .st fs) {E : List AV → Nat → Prop} (hE : ∀ k, k < n → RdFs en Try.prog W k ti.size fs 0 E) :
    Rd en Try.prog W n t (fun av m => ∃ q, E av q ∧ q + 1 = m) := by
  cases n with
  | zero => exact .zero
  | succ n => exact .struct h hk (hE n (Nat.lt_succ_self n))

theorem rd_gd (n : Nat) : Rd en Try.prog W n 33 (fun av m => ∃ t : Gd, av = encG t ∧ gsz t ≤ m) := by
  induction n using Nat.strongRecOn with
  | _ n ih =>
    refine (Rd.struct' ty33 rfl fun k hk => .cons ty28 (.int ty28 rfl) (.cons ty2 (.int ty2 rfl) (.cons ty9 (.str ty9 rfl)
      (.cons ty31 (.slice' ty31 rfl ty33 (by decide) (f := encG) (sz := gsz) fun j hj => ih j (by omega)) (.nil (by decide)))))).mono ?_
    rintro av m ⟨q, h, rfl⟩
    obtain ⟨_, _, _, _, rfl, ⟨z1, _, rfl⟩, h, rfl⟩ := h
    obtain ⟨_, _, _, _, rfl, ⟨z2, _, rfl⟩, h, rfl⟩ := h
    obtain ⟨_, _, _, _, rfl, ⟨s, _, _, rfl⟩, h, rfl⟩ := h
    obtain ⟨_, _, _, _, rfl, ⟨l, rfl, hl, _⟩, rfl, rfl⟩ := h
    exact ⟨.mk z1 z2 s l, by simp [encG, encGs_map], by simp only [gsz, gszs_sum]; omega⟩

theorem rd_range (n : Nat) : Rd en Try.prog W n 105 (fun av m => ∃ t : Int × Int, av = encR t ∧ 1 ≤ m) := by
  refine (Rd.struct' ty105 rfl fun k hk => .cons ty21 (.int ty21 rfl) (.cons ty21 (.int ty21 rfl) (.nil (by decide)))).mono ?_
  rintro av m ⟨q, h, rfl⟩
  obtain ⟨_, _, _, _, rfl, ⟨z1, _, rfl⟩, h, rfl⟩ := h
  obtain ⟨_, _, _, _, rfl, ⟨z2, _, rfl⟩, rfl, rfl⟩ := h
  exact ⟨(z1, z2), rfl, by omega⟩

theorem rd_el (n : Nat) : Rd en Try.prog W n 36 (fun av m => ∃ t : El, av = encE t ∧ esz t ≤ m) := by
  induction n using Nat.strongRecOn with
  | _ n ih =>
    refine (Rd.struct' ty36 rfl fun k hk => .cons ty28 (.int ty28 rfl) (.cons ty9 (.str ty9 rfl) (.cons ty30 (.slice' ty30 rfl ty105 (by decide) (f := encR) (sz := fun _ => 1) fun j _ => rd_range j)
      (.cons ty4 (.bool ty4 rfl) (.cons ty33 (rd_gd k) (.cons ty34 (.slice' ty34 rfl ty36 (by decide) (f := encE) (sz := esz) fun j hj => ih j (by omega))
      (.cons ty3 (.int ty3 rfl) (.cons ty3 (.int ty3 rfl) (.nil (by decide)))))))))).mono ?_
    rintro av m ⟨q, h, rfl⟩
    obtain ⟨_, _, _, _, rfl, ⟨z1, _, rfl⟩, h, rfl⟩ := h
    obtain ⟨_, _, _, _, rfl, ⟨s, _, _, rfl⟩, h, rfl⟩ := h
    obtain ⟨_, _, _, _, rfl, ⟨st, rfl, _, hs⟩, h, rfl⟩ := h
    obtain ⟨_, _, _, _, rfl, ⟨b, rfl⟩, h, rfl⟩ := h
    obtain ⟨_, _, _, _, rfl, ⟨⟨x, y, z, u⟩, rfl, hg⟩, h, rfl⟩ := h
    obtain ⟨_, _, _, _, rfl, ⟨l, rfl, hl, _⟩, h, rfl⟩ := h
    obtain ⟨_, _, _, _, rfl, ⟨z3, _, rfl⟩, h, rfl⟩ := h
    obtain ⟨_, _, _, _, rfl, ⟨z4, _, rfl⟩, rfl, rfl⟩ := h
    refine ⟨.mk z1 s st b (.mk x y z u) l z3 z4, by simp [encE, encG, encEs_map], ?_⟩
    simp only [esz, eszs_sum]; omega

theorem rd_cm (n : Nat) : Rd en Try.prog W n 107 (fun av m => ∃ t : Cm, av = encC t ∧ 1 ≤ m) := by
  refine (Rd.struct' ty107 rfl fun k hk => .cons ty28 (.int ty28 rfl) (.cons ty9 (.str ty9 rfl) (.cons ty3 (.int ty3 rfl) (.nil (by decide))))).mono ?_
  rintro av m ⟨q, h, rfl⟩
  obtain ⟨_, _, _, _, rfl, ⟨z1, _, rfl⟩, h, rfl⟩ := h
  obtain ⟨_, _, _, _, rfl, ⟨s, _, _, rfl⟩, h, rfl⟩ := h
  obtain ⟨_, _, _, _, rfl, ⟨z2, _, rfl⟩, rfl, rfl⟩ := h
  exact ⟨⟨z1, s, z2⟩, rfl, by omega⟩

theorem rd_al (n : Nat) : Rd en Try.prog W n 45 (fun av m => ∃ t : Al, av = encA t ∧ asz t ≤ m) := by
  refine (Rd.struct' ty45 rfl fun k hk => .cons ty36 (rd_el k) (.cons ty4 (.bool ty4 rfl) (.cons ty43 (.slice' ty43 rfl ty107 (by decide) (f := encC) (sz := fun _ => 1) fun j _ => rd_cm j)
    (.cons ty3 (.int ty3 rfl) (.nil (by decide)))))).mono ?_
  rintro av m ⟨q, h, rfl⟩
  obtain ⟨_, _, _, _, rfl, ⟨e, rfl, he⟩, h, rfl⟩ := h
  obtain ⟨_, _, _, _, rfl, ⟨b, rfl⟩, h, rfl⟩ := h
  obtain ⟨_, _, _, _, rfl, ⟨l, rfl, _, hl⟩, h, rfl⟩ := h
  obtain ⟨_, _, _, _, rfl, ⟨z2, _, rfl⟩, rfl, rfl⟩ := h
  exact ⟨⟨e, b, l, z2⟩, by simp [encA_eq], by simp only [asz]; omega⟩

theorem rd_rl (n : Nat) : Rd en Try.prog W n 42 (fun av m => ∃ t : Rl, av = encRl t ∧ rsz t ≤ m) := by
  refine (Rd.struct' ty42 rfl fun k hk => .cons ty9 (.str ty9 rfl) (.cons ty4 (.bool ty4 rfl) (.cons ty9 (.str ty9 rfl)
    (.cons ty40 (.slice' ty40 rfl ty45 (by decide) (f := encA) (sz := asz) fun j _ => rd_al j)
    (.cons ty3 (.int ty3 rfl) (.cons ty3 (.int ty3 rfl) (.nil (by decide)))))))).mono ?_
  rintro av m ⟨q, h, rfl⟩
  obtain ⟨_, _, _, _, rfl, ⟨s, _, _, rfl⟩, h, rfl⟩ := h
  obtain ⟨_, _, _, _, rfl, ⟨b, rfl⟩, h, rfl⟩ := h
  obtain ⟨_, _, _, _, rfl, ⟨s2, _, _, rfl⟩, h, rfl⟩ := h
  obtain ⟨_, _, _, _, rfl, ⟨l, rfl, hl, _⟩, h, rfl⟩ := h
  obtain ⟨_, _, _, _, rfl, ⟨z1, _, rfl⟩, h, rfl⟩ := h
  obtain ⟨_, _, _, _, rfl, ⟨z2, _, rfl⟩, rfl, rfl⟩ := h
  exact ⟨⟨s, b, s2, l, z1, z2⟩, rfl, by simp only [rsz]; omega⟩

theorem rd_wd (n : Nat) : Rd en Try.prog W n 23 (fun av m => ∃ t : Wd, av = encW t ∧ 1 ≤ m) := by
  refine (Rd.struct' ty23 rfl fun k hk => .cons ty9 (.str ty9 rfl) (.cons ty3 (.int ty3 rfl) (.cons ty3 (.int ty3 rfl) (.nil (by decide))))).mono ?_
  rintro av m ⟨q, h, rfl⟩
  obtain ⟨_, _, _, _, rfl, ⟨s, _, _, rfl⟩, h, rfl⟩ := h
  obtain ⟨_, _, _, _, rfl, ⟨z1, _, rfl⟩, h, rfl⟩ := h
  obtain ⟨_, _, _, _, rfl, ⟨z2, _, rfl⟩, rfl, rfl⟩ := h
  exact ⟨⟨s, z1, z2⟩, rfl, by omega⟩

theorem rd_gr (n : Nat) : Rd en Try.prog W n 27 (fun av m => ∃ t : Gr, av = encGr t ∧ grsz t ≤ m) := by
  have ws : ∀ k, Rd en Try.prog W k 24 (fun av m => ∃ l : List Wd, av = [.vec (l.map encW) false] ∧ (l.map fun _ => 1).sum + 1 ≤ m ∧ l.length + 1 ≤ m) := fun k =>
    .slice' ty24 rfl ty23 (by decide) (f := encW) (sz := fun _ => 1) fun j _ => rd_wd j
  refine (Rd.struct' ty27 rfl fun k hk => .cons ty23 (rd_wd k) (.cons ty24 (ws k) (.cons ty24 (ws k) (.cons ty24 (ws k) (.cons ty24 (ws k)
    (.cons ty25 (.slice' ty25 rfl ty42 (by decide) (f := encRl) (sz := rsz) fun j _ => rd_rl j) (.nil (by decide)))))))).mono ?_
  rintro av m ⟨q, h, rfl⟩
  obtain ⟨_, _, _, _, rfl, ⟨w, rfl, _⟩, h, rfl⟩ := h
  obtain ⟨_, _, _, _, rfl, ⟨l1, rfl, _, h1⟩, h, rfl⟩ := h
  obtain ⟨_, _, _, _, rfl, ⟨l2, rfl, _, h2⟩, h, rfl⟩ := h
  obtain ⟨_, _, _, _, rfl, ⟨l3, rfl, _, h3⟩, h, rfl⟩ := h
  obtain ⟨_, _, _, _, rfl, ⟨l4, rfl, _, h4⟩, h, rfl⟩ := h
  obtain ⟨_, _, _, _, rfl, ⟨l5, rfl, h5, _⟩, rfl, rfl⟩ := h
  exact ⟨⟨w, l1, l2, l3, l4, l5⟩, by simp [encGr, encW], by simp only [grsz]; omega⟩
end
end Go.Proofs.Ytogdlomemaoajaa
