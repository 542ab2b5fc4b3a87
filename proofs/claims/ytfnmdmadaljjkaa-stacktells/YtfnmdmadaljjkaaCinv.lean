/- Sets of stacks as trees: how they lie in memory, how they are joined, how many stacks they hold; what the program's caches hold. Conditions: none. -/
import Derived.Test.YtfnmdmadaljjkaaVal
namespace Go.Ab

mutual
inductive Tr where
  | mk (bare : Bool) (ws : List Wy)
inductive Wy where
  | mk (s l : Int) (t : Tr)
end
def Wy.t : Wy → Tr | .mk _ _ t => t
def Wy.s : Wy → Int | .mk s _ _ => s
def Wy.l : Wy → Int | .mk _ l _ => l
def Tr.bare : Tr → Bool | .mk b _ => b
def Tr.ws : Tr → List Wy | .mk _ ws => ws

mutual
def encT : Tr → AV
  | .mk b ws => .np [.lit (.bool b), .vec (encWs ws) false]
def encWs : List Wy → List (List AV)
  | [] => []
  | w :: l => encW w :: encWs l
def encW : Wy → List AV
  | .mk s l t => [.lit (.int .i64 s), .lit (.int .i64 l), encT t]
end
def encO : Option Tr → AV
  | none => .lit (.pointer none)
  | some t => encT t

/-- The order of frames. -/
def cmpI (a b : Int) : Int := if a < b then -1 else if a > b then 1 else 0
def cmpF (s l s' l' : Int) : Int := if cmpI s s' ≠ 0 then cmpI s s' else cmpI l l'
def cmpW (v w : Wy) : Int := cmpF v.s v.l w.s w.l

/-! Two sets joined; a bound for the rounds of the walk. -/
mutual
def joinT : Nat → Tr → Tr → Tr
  | 0, a, _ => a
  | n + 1, .mk b ws, .mk c vs => .mk (b || c) (joinW n ws vs)
def joinW : Nat → List Wy → List Wy → List Wy
  | 0, ws, _ => ws
  | n + 1, ws, vs => match ws, vs with
    | [], vs => vs
    | w :: ws, [] => w :: ws
    | w :: ws, v :: vs => if cmpW w v < 0 then w :: joinW n ws (v :: vs) else if cmpW w v > 0 then v :: joinW n (w :: ws) vs else .mk w.s w.l (joinT n w.t v.t) :: joinW n ws vs
end
mutual
def szT : Tr → Nat
  | .mk _ ws => 1 + szWs ws
def szWs : List Wy → Nat
  | [] => 0
  | w :: l => szW w + szWs l
def szW : Wy → Nat
  | .mk _ _ t => 1 + szT t
end
def joinTr (a b : Tr) : Tr := joinT (szT a + szT b) a b

/-! How many stacks. -/
mutual
def cntT : Tr → Int
  | .mk b ws => cntWs (if b then 1 else 0) ws
def cntWs : Int → List Wy → Int
  | k, [] => k
  | k, w :: l => cntWs (min (k + cntW w) 1073741824) l
def cntW : Wy → Int
  | .mk _ _ t => cntT t
end

/-- What caches hold: 0: what was joined; 1: what was found the same; 2: what was counted. -/
def cinv : Nat → AV → AV → Prop
  | 0, k, v => ∃ a b, k = .agg [encT a, encT b] ∧ v = encT (joinTr a b)
  | 1, k, v => ∃ a b : Option Tr, k = .agg [encO a, encO b] ∧ (∃ q : Bool, v = .lit (.bool q) ∧ (q = true → a = b))
  | 2, k, v => ∃ t, k = encT t ∧ v = .lit (.int .i64 (cntT t))
  | _, _, _ => False
end Go.Ab
