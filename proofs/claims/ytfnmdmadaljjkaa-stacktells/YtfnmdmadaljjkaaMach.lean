/- The abstract machine's states and steps: operations that make nothing and change nothing. Conditions: those that each theorem names. -/
import Derived.Laws.Pointers
import Derived.Test.YtfnmdmadaljjkaaTok
namespace Go.Ab

/-- What a type is, as far as the machine asks. -/
inductive Kd where
  | bool | str | oth
  | int (k : IntKind)
  | sl (e : TypeId)
  | arr (n : Nat) (e : TypeId)
  | st (fs : List (Nat × TypeId))
  | map (k e : TypeId)

def Kd.agg : Kd → Bool
  | .st _ | .arr _ _ => true
  | _ => false

structure TI where
  kd : Kd
  size : Nat
  bytes : Nat
  zero : Option (List AV)

/-- A constant's cell. -/
def cellAV : Value → Option AV
  | .slice none 0 0 => some (.vec [] true)
  | v => if plain v then some (.lit v) else none
def cellsAV : List Value → Option (List AV)
  | [] => some []
  | v :: l => match cellAV v, cellsAV l with
    | some a, some as => some (a :: as)
    | _, _ => none
def constAV : Value → Option AV
  | .agg cs => (cellsAV cs.toList).map .agg
  | v => cellAV v

def kdOf : TypeDesc → Kd
  | .bool => .bool
  | .string => .str
  | .int k => .int k
  | .slice e => .sl e
  | .array n e => .arr n e
  | .struct fs => .st (fs.toList.map fun f => (f.offset, f.type))
  | .map k e => .map k e
  | _ => .oth

def tyOf (P : Program) (t : TypeId) : Option TI :=
  match P.info? t, P.underlying t with
  | some i, some d => some { kd := kdOf d, size := i.size, bytes := i.bytes, zero := i.zero.bind fun z => cellsAV z.cells.toList }
  | _, _ => none

theorem tyOf_some {P : Program} {t : TypeId} {ti : TI} (h : tyOf P t = some ti) : ∃ i d, P.info? t = some i ∧ P.underlying t = some d ∧ ti.kd = kdOf d ∧ ti.size = i.size ∧ ti.bytes = i.bytes ∧
    ∀ zs, ti.zero = some zs → ∃ z, i.zero = some z ∧ cellsAV z.cells.toList = some zs := by
  unfold tyOf at h
  cases hi : P.info? t with
  | none => simp [hi] at h
  | some i =>
    cases hd : P.underlying t with
    | none => simp [hi, hd] at h
    | some d =>
      simp only [hi, hd, Option.some.injEq] at h
      subst h
      refine ⟨i, d, rfl, rfl, rfl, rfl, rfl, fun zs hz => ?_⟩
      cases hz' : i.zero with
      | none => simp [hz'] at hz
      | some z => simp only [hz', Option.bind_some] at hz; exact ⟨z, rfl, hz⟩

theorem Rep.cellAV {g : Gh} {v : Value} {a : AV} (h : cellAV v = some a) : Rep g v a ∧ v.oneCell' = true := by
  unfold Ab.cellAV at h
  split at h
  · cases h; exact ⟨.vecN, rfl⟩
  · split at h
    · rename_i hp
      cases h
      refine ⟨.lit hp, ?_⟩
      cases v <;> simp_all [plain, Value.oneCell']
    · cases h

theorem RepL.cellsAV {g : Gh} {vs : List Value} {as : List AV} (h : cellsAV vs = some as) : RepL g vs as ∧ ∀ v ∈ vs, v.oneCell' = true := by
  induction vs generalizing as with
  | nil => simp only [Ab.cellsAV, Option.some.injEq] at h; subst h; exact ⟨.nil, by simp⟩
  | cons v vs ih =>
    unfold Ab.cellsAV at h
    split at h
    · rename_i a as' h1 h2
      cases h
      obtain ⟨i1, i2⟩ := ih h2
      obtain ⟨j1, j2⟩ := Rep.cellAV (g := g) h1
      exact ⟨.cons j1 i1, by simp only [List.mem_cons, forall_eq_or_imp]; exact ⟨j2, i2⟩⟩
    · cases h

theorem Rep.constAV {g : Gh} {v : Value} {a : AV} (h : constAV v = some a) : Rep g v a := by
  unfold Ab.constAV at h
  split at h
  · rename_i cs
    cases hc : Ab.cellsAV cs.toList with
    | none => simp [hc] at h
    | some as =>
      simp only [hc, Option.map_some, Option.some.injEq] at h
      subst h
      obtain ⟨h1, h2⟩ := RepL.cellsAV (g := g) hc
      exact .agg h2 h1.1 h1.2
  · exact (Rep.cellAV h).1

/-- A state: what is known of the slots, and of the heap. -/
structure St where
  slots : List (Nat × AV)
  hp : Hp
  nt : Nat

/-- A piece of a run. -/
structure Step1 (g : Gh) (h : Hp) (w : World) (g' : Gh) (h' : Hp) (w' : World) : Prop where
  hp : HRel g' h' w'
  ext : Ext g g'
  keeps : Keeps (Live g h) w w'
  live : ∀ b, Live g' h' b → Live g h b ∨ w.heap.size ≤ b
  memo : ∀ b o v, g'.mem b o = some v → g.mem b o = some v ∨ Live g h b ∨ w.heap.size ≤ b

theorem Step1.refl {g : Gh} {h : Hp} {w : World} (r : HRel g h w) : Step1 g h w g h w := ⟨r, .refl _, .refl _ _, fun _ l => .inl l, fun _ _ _ e => .inl e⟩
theorem Step1.trans {g h w g' h' w' g'' h'' w''} (a : Step1 g h w g' h' w') (b : Step1 g' h' w' g'' h'' w'') : Step1 g h w g'' h'' w'' :=
  ⟨b.hp, a.ext.trans b.ext, a.keeps.trans b.keeps a.live, fun x l => by
    rcases b.live x l with l1 | l1
    · exact a.live x l1
    · exact .inr (Nat.le_trans a.keeps.size l1), fun x o v e => by
    rcases b.memo x o v e with e1 | e1 | e1
    · exact a.memo x o v e1
    · exact .inr (a.live x e1)
    · exact .inr (.inr (Nat.le_trans a.keeps.size e1))⟩
theorem Step1.less {g h w g' h' h'' w'} (a : Step1 g h w g' h' w') (hn : h''.nx = h'.nx) (hb : ∀ i c, lk h''.boxes i = some c → lk h'.boxes i = some c) (ht : ∀ i c, lk h''.toks i = some c → lk h'.toks i = some c) : Step1 g h w g' h'' w' :=
  ⟨a.hp.less hn hb ht, a.ext, a.keeps, fun x l => a.live x (Live.less hb ht l), a.memo⟩

structure FRel (g0 : Gh) (h0 : Hp) (w0 : World) (σ : St) (g : Gh) (w : World) (a : Act) : Prop where
  st : Step1 g0 h0 w0 g σ.hp w
  slots : ∀ s v, lk σ.slots s = some v → ∃ u, a.tmps[s]? = some u ∧ Rep g u v
  nt : a.tmps.size = σ.nt
  defers : a.defers = []

/-- A call, in the machine's words. -/
def SCall (P : Program) (f : FuncId) (args : List AV) (h : Hp) (Q : AV → Hp → Prop) : Prop :=
  ∀ g w (vals : Array Value), HRel g h w → RepL g vals.toList args → Calls P f vals w fun e w' => ∃ v r h' g', e = .returned v ∧ Rep g' v r ∧ Step1 g h w g' h' w' ∧ Q r h'

def Post (g0 : Gh) (h0 : Hp) (w0 : World) (Q : Exit → St → Prop) : Exit → Act → World → Prop := fun e a w => ∃ σ g, Q e σ ∧ FRel g0 h0 w0 σ g w a
def Aw (P : Program) (c : Code) (Q : Exit → St → Prop) (σ : St) : Prop := ∀ g0 h0 w0 g w a, FRel g0 h0 w0 σ g w a → c.wp P (Post g0 h0 w0 Q) a w
def AwOp (P : Program) (o : Oper) (K : St → Prop) (σ : St) : Prop :=
  ∀ g0 h0 w0 g w a Q, FRel g0 h0 w0 σ g w a → o.wp P a w (fun a' w' => ∃ σ' g', K σ' ∧ FRel g0 h0 w0 σ' g' w' a') Q

def ev (σ : St) : Operand → Option AV
  | .tmp t => lk σ.slots t
  | .const v => constAV v
  | .global _ => none
  | .func f => some (.fn (.func f) [] [])
def evL (σ : St) : List Operand → Option (List AV)
  | [] => some []
  | x :: l => match ev σ x, evL σ l with
    | some a, some as => some (a :: as)
    | _, _ => none

theorem FRel.ev {g0 h0 w0 σ g w a} (r : FRel g0 h0 w0 σ g w a) {x : Operand} {v : AV} (h : ev σ x = some v) : Rep g (a.eval x) v := by
  cases x with
  | tmp t => obtain ⟨u, e1, e2⟩ := r.slots t v h; simpa [Act.eval, Array.getD_eq_getD_getElem?, e1] using e2
  | const c => exact .constAV h
  | «global» q => cases h
  | func f => cases h; exact .fn rfl (fun _ _ _ e => by simp at e) rfl (fun _ _ _ e => by simp at e)
theorem FRel.evL {g0 h0 w0 σ g w a} (r : FRel g0 h0 w0 σ g w a) : ∀ {xs : List Operand} {vs : List AV}, evL σ xs = some vs → RepL g (xs.map a.eval) vs
  | [], vs, h => by cases h; exact .nil
  | x :: l, vs, h => by
    unfold Ab.evL at h
    split at h
    · rename_i v vs' h1 h2; cases h; exact .cons (r.ev h1) (r.evL h2)
    · cases h

/-- The rows of a struct's fields: where, how many cells. -/
def places (P : Program) : List (Nat × TypeId) → Option (List (Nat × Nat))
  | [] => some []
  | (o, t) :: l => match tyOf P t, places P l with
    | some ti, some ps => some ((o, ti.size) :: ps)
    | _, _ => none
def splice (cells : List AV) (off : Nat) (cs : List AV) : List AV := cells.take off ++ cs ++ cells.drop (off + cs.length)
def fillAV (place : Nat → Option (Nat × Nat)) (cells : List AV) : List (Nat × AV) → Option (List AV)
  | [] => some cells
  | (i, v) :: rest => match place i, v.cells with
    | some (off, size), some cs => if cs.length = size ∧ off + cs.length ≤ cells.length then fillAV place (splice cells off cs) rest else none
    | _, _ => none
def evP (σ : St) : List (Nat × Operand) → Option (List (Nat × AV))
  | [] => some []
  | (i, x) :: l => match ev σ x, evP σ l with
    | some a, some as => some ((i, a) :: as)
    | _, _ => none

/-- A value out of cells. -/
def valAt (ti : TI) (cs : List AV) (off : Nat) : Option AV :=
  if ti.kd.agg then (if off + ti.size ≤ cs.length then some (.agg ((cs.drop off).take ti.size)) else none) else cs[off]?

def intBin (op : BinOp) (k : IntKind) (a b : Int) : Option Value :=
  match op with
  | .add => some (.int k (k.wrap (a + b)))
  | .sub => some (.int k (k.wrap (a - b)))
  | .mul => some (.int k (k.wrap (a * b)))
  | .quo => if b = 0 then none else some (.int k (k.wrap (a.tdiv b)))
  | .rem => if b = 0 then none else some (.int k (a.tmod b))
  | .and => some (.int k (k.wrap (BitVec.ofInt k.bits a &&& BitVec.ofInt k.bits b).toNat))
  | .or => some (.int k (k.wrap (BitVec.ofInt k.bits a ||| BitVec.ofInt k.bits b).toNat))
  | .xor => some (.int k (k.wrap (BitVec.ofInt k.bits a ^^^ BitVec.ofInt k.bits b).toNat))
  | .andNot => some (.int k (k.wrap (BitVec.ofInt k.bits a &&& ~~~ BitVec.ofInt k.bits b).toNat))
  | .eql => some (.bool (a == b))
  | .neq => some (.bool (a != b))
  | .lss => some (.bool (decide (a < b)))
  | .leq => some (.bool (decide (a ≤ b)))
  | .gtr => some (.bool (decide (a > b)))
  | .geq => some (.bool (decide (a ≥ b)))
  | .shl => if b < 0 then none else some (.int k (k.wrap (a * 2 ^ (min b.toNat k.bits))))
  | .shr => if b < 0 then none else some (.int k (a.fdiv (2 ^ (min b.toNat k.bits))))
def strBin (op : BinOp) (a b : ByteArray) : Option Value :=
  match op with
  | .eql => some (.bool (a.toList == b.toList))
  | .neq => some (.bool !(a.toList == b.toList))
  | .lss => some (.bool (Op.bytesLess a.toList b.toList))
  | .leq => some (.bool (Op.bytesLess a.toList b.toList || a.toList == b.toList))
  | .gtr => some (.bool !(Op.bytesLess a.toList b.toList || a.toList == b.toList))
  | .geq => some (.bool !(Op.bytesLess a.toList b.toList))
  | .add => if ((a.size + b.size : Nat) : Int) > IntKind.i64.max then none else some (.string (a ++ b))
  | _ => none
def isPtr (P : Program) (t : TypeId) : Bool := match P.underlying t with | some (.pointer _) => true | _ => false
theorem isPtr_some {P : Program} {t : TypeId} (h : isPtr P t = true) : P.underlying t = some (.pointer (P.pointee t)) := by
  unfold isPtr at h
  split at h
  · rename_i e he; simp [Program.pointee, he]
  · cases h
/-- A pointer against nil. -/
def nilCmp (P : Program) (op : BinOp) (t : TypeId) (b : Bool) : Option Value := match isPtr P t, op with
  | true, .eql => some (.bool b)
  | true, .neq => some (.bool !b)
  | _, _ => none
theorem run_nilCmp (P : Program) (w : World) {op : BinOp} {t : TypeId} {p : Option Addr} {v : Value} (h : nilCmp P op t p.isNone = some v) :
    (binOp op t (.pointer p) (.pointer none)).run P w = .ok v w ∧ plain v = true ∧ ∀ x y, (eqGuard op t x y (.pointer p) (.pointer none)).run P w = .ok () w := by
  unfold nilCmp at h
  split at h
  · rename_i hp; cases h
    exact ⟨run_eql_pointer_nil w t p (isPtr_some hp), rfl, fun x y => by unfold eqGuard; split <;> rfl⟩
  · rename_i hp; cases h
    exact ⟨run_neq_pointer_nil w t p (isPtr_some hp), rfl, fun x y => by unfold eqGuard; split <;> rfl⟩
  · cases h

def binV (P : Program) (op : BinOp) (t : TypeId) (x y : Value) : Option Value :=
  match x, y with
  | .pointer none, .pointer none => nilCmp P op t true
  | .int k a, .int k' b => if k = k' ∨ op = .shl ∨ op = .shr then intBin op k a b else none
  | .string a, .string b => strBin op a b
  | .bool a, .bool b => match op, (tyOf P t).map TI.kd with
    | .eql, some Kd.bool => some (.bool (a == b))
    | .neq, some Kd.bool => some (.bool !(a == b))
    | _, _ => none
  | _, _ => none

theorem run_binOp_int (P : Program) (w : World) {op : BinOp} {t : TypeId} {k k' : IntKind} {a b : Int} {v : Value} (hk : k = k' ∨ op = .shl ∨ op = .shr) (h : intBin op k a b = some v) :
    (binOp op t (.int k a) (.int k' b)).run P w = .ok v w := by
  by_cases hop : op = .shl ∨ op = .shr
  · rcases hop with rfl | rfl <;>
    · simp only [intBin] at h
      split at h
      · cases h
      · rename_i hb; cases h; simp [binOp, Op.shift, hb]
  · have hk' : k = k' := by rcases hk with h1 | h1; exact h1; exact absurd h1 hop
    subst hk'
    cases op <;> simp only [intBin, reduceCtorEq, or_self, not_true, not_false_eq_true, or_true, true_or] at h hop <;>
      first
        | (cases h; simp [binOp, Op.intArith, Op.intCmp, Op.intBits]; done)
        | (split at h <;> first | (cases h; done) | (rename_i hb; cases h; simp [binOp, Op.intDiv, hb]))

theorem run_binV (P : Program) (w : World) {op : BinOp} {t : TypeId} {x y v : Value} (h : binV P op t x y = some v) : (binOp op t x y).run P w = .ok v w ∧ plain v = true ∧ ∀ p q, (eqGuard op t p q x y).run P w = .ok () w := by
  unfold binV at h
  split at h
  · exact run_nilCmp P w (p := none) h
  · rename_i k a k' b
    split at h
    · rename_i hk
      refine ⟨run_binOp_int P w hk h, ?_, fun p q => by unfold eqGuard; split <;> rfl⟩
      cases op <;> simp only [intBin] at h <;> first | (cases h; rfl) | (split at h <;> first | (cases h; done) | (cases h; rfl))
    · cases h
  · rename_i a b
    refine ⟨?_, ?_, fun p q => by unfold eqGuard; split <;> rfl⟩
    · cases op <;> simp only [strBin] at h <;> first | (cases h; done) | (cases h; simp [binOp, Op.stringOp]; done) | (split at h <;> first | (cases h; done) | (rename_i hb; cases h; simp only [binOp, Op.stringOp]; rw [if_neg hb]; rfl))
    · cases op <;> simp only [strBin] at h <;> first | (cases h; done) | (cases h; rfl) | (split at h <;> first | (cases h; done) | (cases h; rfl))
  · rename_i a b
    split at h
    · rename_i ht
      cases h
      cases hti : tyOf P t with
      | none => simp [hti] at ht
      | some ti =>
        obtain ⟨i, d, _, hd, hk, _⟩ := tyOf_some hti
        simp only [hti, Option.map_some, Option.some.injEq, hk] at ht
        have : d = .bool := by cases d <;> simp [kdOf] at ht; rfl
        subst this
        exact ⟨run_eql_bool w t a b hd, rfl, fun p q => by unfold eqGuard; split <;> rfl⟩
    · rename_i ht
      cases h
      cases hti : tyOf P t with
      | none => simp [hti] at ht
      | some ti =>
        obtain ⟨i, d, _, hd, hk, _⟩ := tyOf_some hti
        simp only [hti, Option.map_some, Option.some.injEq, hk] at ht
        have : d = .bool := by cases d <;> simp [kdOf] at ht; rfl
        subst this
        exact ⟨by simp [binOp, run_equal_bool w t a b hd], rfl, fun p q => by unfold eqGuard; split <;> rfl⟩
    · cases h
  · cases h
end Go.Ab
