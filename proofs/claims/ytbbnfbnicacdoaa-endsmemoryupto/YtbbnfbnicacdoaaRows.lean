/-
  NARROWER THAN 'FOR EVERY INPUT', by the rows' own cells (each row's printed sentence says how): EndsNext: loops · EndsMemory: loops.
  DERIVED. THE GIVEN ROWS OF THIS SEAT. 2 by the template 'for every input the law returns true; each argument reads behind the call as it read before'; 0 by the template 'total and deterministic' (their statements: YtbbnfbnicacdoaaTotals.lean).
  GIVEN WITH THE SEED: the statements are not yours to turn. If you find one false, say at which input.
  Laid BY PROGRAM, IN A SANDBOX (cutbox-rows.mjs): the forced cells as the released guide's own fill.sh prints them over the translation e63abbba27a6b0da… (all of the seat's roots in one cut). By AI agents, Wed Nov 11 2026. No macro, syntax, notation, axiom, sorry.
-/
import Derived.Test.YtbbnfbnicacdoaaChecked
import GoSem.Claim
import GoSem.ClaimJoined
import GoSem.ClaimMapViews
import Derived.JoinedTies
import Derived.KernelRfl
namespace Go.Proofs.Ytbbnfbnicacdoaa
/- THE CELL 'sum', in the pinned program and in every row, IS THE sha256 OF THE DUMP (.gsa) THAT YtbbnfbnicacdoaaProg.lean LOADS. Nothing in Lean hashes anything: it is a label: what it is worth is what the hold of that sum in a sandbox is worth. -/
noncomputable def Try.pinned : Pinned := { name := "ytbbnfbnicacdoaa", sum := "e63abbba27a6b0dab7984e7a968ff3d4472d1cd1a7ead6a0c9c28cd0da065767", checked := Try.checked }
namespace Rows
def none {H : Type} : Left H := { results := [], args := [] }

/-- 'pollardlaw20.EndsNext': WHATEVER THE INPUT: true; the input reads as it did. -/
def endsNextSpec : ChangeSpec := { name := "endsNext", fn := fun _ => fun
  | [d1, d2, d3] => { results := [.lit (.bool true)], args := [d1, d2, d3] }
  | _ => none }
def endsNextRow : OpenClaim := { program := "ytbbnfbnicacdoaa", sum := "e63abbba27a6b0dab7984e7a968ff3d4472d1cd1a7ead6a0c9c28cd0da065767", func := "pollard/pollardlaw20.EndsNext", spec := "endsNext", unfollowed := true, recurses := true, loops := true, plainKeys := false, apart := false }
def EndsNextSaid : Prop := endsNextRow.holds Try.pinned (OpenSpec.ofChange endsNextSpec)

/-- ITS FALSE NEIGHBOUR: 'it returns false'. Refute it at one input. -/
def endsNextWrong : ChangeSpec := { name := "endsNext", fn := fun _ => fun
  | [d1, d2, d3] => { results := [.lit (.bool false)], args := [d1, d2, d3] }
  | _ => none }
def EndsNextWrongFalsely : Prop := endsNextRow.holds Try.pinned (OpenSpec.ofChange endsNextWrong)

/-- 'pollardlaw20.EndsMemory': WHATEVER THE INPUT: true; the input reads as it did. -/
def endsMemorySpec : ChangeSpec := { name := "endsMemory", fn := fun _ => fun
  | [d1, d2, d3, d4] => { results := [.lit (.bool true)], args := [d1, d2, d3, d4] }
  | _ => none }
def endsMemoryRow : OpenClaim := { program := "ytbbnfbnicacdoaa", sum := "e63abbba27a6b0dab7984e7a968ff3d4472d1cd1a7ead6a0c9c28cd0da065767", func := "pollard/pollardlaw20.EndsMemory", spec := "endsMemory", unfollowed := true, recurses := true, loops := true, plainKeys := false, apart := false }
def EndsMemorySaid : Prop := endsMemoryRow.holds Try.pinned (OpenSpec.ofChange endsMemorySpec)

/-- ITS FALSE NEIGHBOUR: 'it returns false'. Refute it at one input. -/
def endsMemoryWrong : ChangeSpec := { name := "endsMemory", fn := fun _ => fun
  | [d1, d2, d3, d4] => { results := [.lit (.bool false)], args := [d1, d2, d3, d4] }
  | _ => none }
def EndsMemoryWrongFalsely : Prop := endsMemoryRow.holds Try.pinned (OpenSpec.ofChange endsMemoryWrong)

/- THE SECOND FORM. 'bulk': how many values and letters a reading holds, each counted each time it is reached (what is shared counts as often as it is met; a slice's spare places count too). A statement '..UptoSaid' is the law's where the arguments, and the package variables that the reading takes, are together of bulk at most 1048576: NARROWER than '..Said'. Prove '..Said' where nothing that the law and all that it calls make is longer than what came in: it says more and counts as full. Else prove '..UptoSaid'. A law counts once. -/
mutual
def uptoBulk {H : Type} : DataW H → Nat
  | .lit (.string bytes) => bytes.length + 1
  | .lit _ => 1
  | .nil => 1
  | .ptr d => uptoBulk d + 1
  | .slice elems spare => uptoBulkAll elems + uptoBulkAll spare + 1
  | .agg parts => uptoBulkAll parts + 1
  | .iface _ d => uptoBulk d + 1
  | .map entries => uptoBulkEntries entries + 1
  | .held _ => 1
def uptoBulkAll {H : Type} : List (DataW H) → Nat
  | [] => 0
  | d :: r => uptoBulk d + uptoBulkAll r
def uptoBulkEntries {H : Type} : List (Lit × DataW H) → Nat
  | [] => 0
  | x :: r => uptoBulkEntry x + uptoBulkEntries r
def uptoBulkEntry {H : Type} : Lit × DataW H → Nat
  | (.string bytes, d) => bytes.length + uptoBulk d + 1
  | (_, d) => uptoBulk d + 1
 end
def uptoSmall : (H : Type) → List (DataW H) → Bool := fun _ ds => decide (uptoBulkAll ds ≤ 1048576)
def OpenSpec.upto (s : _root_.Go.ChangeSpec) : _root_.Go.OpenSpec := { _root_.Go.OpenSpec.ofChange s with cond := some uptoSmall }

/-- 'pollardlaw20.EndsNext', WHERE WHAT IT READS IS OF BULK AT MOST 1048576: true; the input reads as it did. -/
def endsNextUptoRow : OpenClaim := { program := "ytbbnfbnicacdoaa", sum := "e63abbba27a6b0dab7984e7a968ff3d4472d1cd1a7ead6a0c9c28cd0da065767", func := "pollard/pollardlaw20.EndsNext", spec := "endsNext", unfollowed := true, recurses := true, loops := true, plainKeys := false, apart := false, narrowed := true }
def EndsNextUptoSaid : Prop := endsNextUptoRow.holds Try.pinned (OpenSpec.upto endsNextSpec)

/-- 'pollardlaw20.EndsMemory', WHERE WHAT IT READS IS OF BULK AT MOST 1048576: true; the input reads as it did. -/
def endsMemoryUptoRow : OpenClaim := { program := "ytbbnfbnicacdoaa", sum := "e63abbba27a6b0dab7984e7a968ff3d4472d1cd1a7ead6a0c9c28cd0da065767", func := "pollard/pollardlaw20.EndsMemory", spec := "endsMemory", unfollowed := true, recurses := true, loops := true, plainKeys := false, apart := false, narrowed := true }
def EndsMemoryUptoSaid : Prop := endsMemoryUptoRow.holds Try.pinned (OpenSpec.upto endsMemorySpec)

end Rows
end Go.Proofs.Ytbbnfbnicacdoaa
