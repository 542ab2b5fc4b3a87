/- The abstract machine's values: values without addresses. Conditions: none. -/
import Derived.WalkKit
namespace Go.Ab

/-- A value with nothing of memory in it. -/
def plain : Value → Bool
  | .bool _ | .int _ _ | .float _ _ | .complex _ _ _ | .string _ | .nilFunc | .nilIface => true
  | .pointer none | .map none | .chan none => true
  | _ => false

/-- Abstract values. 'vec': a slice whose cells are never written again (its rows; 'true': its capacity is its length). 'pp': a pointer into such a row. 'np': a pointer to a variable that is never written again. 'mp': a map that is a cache, of a kind. 'ptr': into a variable of the abstract heap. 'own': a slice that the run itself made and may still write. 'ep': a pointer to an element of such a one. -/
inductive AV where
  | lit (v : Value)
  | agg (cs : List AV)
  | tup (vs : List AV)
  | vec (xs : List (List AV)) (full : Bool)
  | pp (cs : List AV) (off : Nat)
  | ptr (id off : Nat)
  | own (t n : Nat)
  | ep (t n s i off : Nat)
  | fn (f : Fn) (first captured : List AV)
  | ifc (t : TypeId) (v : AV)
  | mp (id : Nat)
  | np (cs : List AV)

end Go.Ab
