/-
  No cell of these rows narrows 'for every input' (looked for: loops, veiled, ifaces, maps, wideKeys, modest, calm, conditions, laid).
  DERIVED. THE GIVEN ROWS OF THIS SEAT. 3 by the template 'for every input the law returns true; each argument reads behind the call as it read before'; 0 by the template 'total and deterministic' (their statements: YtfnmdmadaljjkaaTotals.lean).
  GIVEN WITH THE SEED: the statements are not yours to turn. If you find one false, say at which input.
  Laid BY PROGRAM, IN A SANDBOX (cutbox-rows.mjs): the forced cells as the released guide's own fill.sh prints them over the translation eb52af5f4d9648f5… (all of the seat's roots in one cut). By AI agents, Wed Nov 11 2026. No macro, syntax, notation, axiom, sorry.
-/
import Derived.Test.YtfnmdmadaljjkaaChecked
import GoSem.Claim
import GoSem.ClaimJoined
import GoSem.ClaimMapViews
import Derived.JoinedTies
import Derived.KernelRfl
namespace Go.Proofs.Ytfnmdmadaljjkaa
/- THE CELL 'sum', in the pinned program and in every row, IS THE sha256 OF THE DUMP (.gsa) THAT YtfnmdmadaljjkaaProg.lean LOADS. Nothing in Lean hashes anything: it is a label: what it is worth is what the hold of that sum in a sandbox is worth. -/
noncomputable def Try.pinned : Pinned := { name := "ytfnmdmadaljjkaa", sum := "eb52af5f4d9648f56c8955da260e97722ab9c4a0c2d1371c3f5d68bb42e89df6", checked := Try.checked }
namespace Rows
def none {H : Type} : Left H := { results := [], args := [] }

/-- 'pollardlaw19.StackTells': WHATEVER THE INPUT: true; the input reads as it did. -/
def stackTellsSpec : ChangeSpec := { name := "stackTells", fn := fun _ => fun
  | [d1, d2, d3] => { results := [.lit (.bool true)], args := [d1, d2, d3] }
  | _ => none }
def stackTellsRow : OpenClaim := { program := "ytfnmdmadaljjkaa", sum := "eb52af5f4d9648f56c8955da260e97722ab9c4a0c2d1371c3f5d68bb42e89df6", func := "pollard/pollardlaw19.StackTells", spec := "stackTells", unfollowed := true, recurses := true, plainKeys := false, apart := false }
def StackTellsSaid : Prop := stackTellsRow.holds Try.pinned (OpenSpec.ofChange stackTellsSpec)

/-- ITS FALSE NEIGHBOUR: 'it returns false'. Refute it at one input. -/
def stackTellsWrong : ChangeSpec := { name := "stackTells", fn := fun _ => fun
  | [d1, d2, d3] => { results := [.lit (.bool false)], args := [d1, d2, d3] }
  | _ => none }
def StackTellsWrongFalsely : Prop := stackTellsRow.holds Try.pinned (OpenSpec.ofChange stackTellsWrong)

/-- 'pollardlaw19.StackLaws': WHATEVER THE INPUT: true; the input reads as it did. -/
def stackLawsSpec : ChangeSpec := { name := "stackLaws", fn := fun _ => fun
  | [d1, d2, d3, d4, d5] => { results := [.lit (.bool true)], args := [d1, d2, d3, d4, d5] }
  | _ => none }
def stackLawsRow : OpenClaim := { program := "ytfnmdmadaljjkaa", sum := "eb52af5f4d9648f56c8955da260e97722ab9c4a0c2d1371c3f5d68bb42e89df6", func := "pollard/pollardlaw19.StackLaws", spec := "stackLaws", unfollowed := true, recurses := true, plainKeys := false, apart := false }
def StackLawsSaid : Prop := stackLawsRow.holds Try.pinned (OpenSpec.ofChange stackLawsSpec)

/-- ITS FALSE NEIGHBOUR: 'it returns false'. Refute it at one input. -/
def stackLawsWrong : ChangeSpec := { name := "stackLaws", fn := fun _ => fun
  | [d1, d2, d3, d4, d5] => { results := [.lit (.bool false)], args := [d1, d2, d3, d4, d5] }
  | _ => none }
def StackLawsWrongFalsely : Prop := stackLawsRow.holds Try.pinned (OpenSpec.ofChange stackLawsWrong)

/-- 'pollardlaw19.StackShared': WHATEVER THE INPUT: true; the input reads as it did. -/
def stackSharedSpec : ChangeSpec := { name := "stackShared", fn := fun _ => fun
  | [d1, d2, d3] => { results := [.lit (.bool true)], args := [d1, d2, d3] }
  | _ => none }
def stackSharedRow : OpenClaim := { program := "ytfnmdmadaljjkaa", sum := "eb52af5f4d9648f56c8955da260e97722ab9c4a0c2d1371c3f5d68bb42e89df6", func := "pollard/pollardlaw19.StackShared", spec := "stackShared", unfollowed := true, recurses := true, plainKeys := false, apart := false }
def StackSharedSaid : Prop := stackSharedRow.holds Try.pinned (OpenSpec.ofChange stackSharedSpec)

/-- ITS FALSE NEIGHBOUR: 'it returns false'. Refute it at one input. -/
def stackSharedWrong : ChangeSpec := { name := "stackShared", fn := fun _ => fun
  | [d1, d2, d3] => { results := [.lit (.bool false)], args := [d1, d2, d3] }
  | _ => none }
def StackSharedWrongFalsely : Prop := stackSharedRow.holds Try.pinned (OpenSpec.ofChange stackSharedWrong)

/- THE SECOND FORM. 'bulk': how many values and letters a reading holds, each counted each time it is reached (what is shared counts as often as it is met; a slice's spare places count too). A statement '..UptoSaid' is the law's where the arguments, and the package variables that the reading takes, are together of bulk at most 1048576: NARROWER than '..Said'. Prove '..Said' where nothing that the law and all that it calls make is longer than what came in: it says more and counts as full. Else prove '..UptoSaid'. A law counts once. -/
mutual
def uptoBulk {H : Type} : DataW H → Nat
  | .lit (.string bytes) => bytes.length + 1
  | .lit _ => 1
  | .nil => 1
  | .ptr d => uptoBulk d + 1
  | .slice elems spare => uptoBulkAll elems + uptoBulkAll spare + 1
  | .agg parts => uptoBulkAll parts + 1
  | .iface _ d => uptoBulk d + 1
  | .map entries => uptoBulkEntries entries + 1
  | .held _ => 1
def uptoBulkAll {H : Type} : List (DataW H) → Nat
  | [] => 0
  | d :: r => uptoBulk d + uptoBulkAll r
def uptoBulkEntries {H : Type} : List (Lit × DataW H) → Nat
  | [] => 0
  | x :: r => uptoBulkEntry x + uptoBulkEntries r
def uptoBulkEntry {H : Type} : Lit × DataW H → Nat
  | (.string bytes, d) => bytes.length + uptoBulk d + 1
  | (_, d) => uptoBulk d + 1
 end
def uptoSmall : (H : Type) → List (DataW H) → Bool := fun _ ds => decide (uptoBulkAll ds ≤ 1048576)
def OpenSpec.upto (s : _root_.Go.ChangeSpec) : _root_.Go.OpenSpec := { _root_.Go.OpenSpec.ofChange s with cond := some uptoSmall }

/-- 'pollardlaw19.StackTells', WHERE WHAT IT READS IS OF BULK AT MOST 1048576: true; the input reads as it did. -/
def stackTellsUptoRow : OpenClaim := { program := "ytfnmdmadaljjkaa", sum := "eb52af5f4d9648f56c8955da260e97722ab9c4a0c2d1371c3f5d68bb42e89df6", func := "pollard/pollardlaw19.StackTells", spec := "stackTells", unfollowed := true, recurses := true, plainKeys := false, apart := false, narrowed := true }
def StackTellsUptoSaid : Prop := stackTellsUptoRow.holds Try.pinned (OpenSpec.upto stackTellsSpec)

/-- 'pollardlaw19.StackLaws', WHERE WHAT IT READS IS OF BULK AT MOST 1048576: true; the input reads as it did. -/
def stackLawsUptoRow : OpenClaim := { program := "ytfnmdmadaljjkaa", sum := "eb52af5f4d9648f56c8955da260e97722ab9c4a0c2d1371c3f5d68bb42e89df6", func := "pollard/pollardlaw19.StackLaws", spec := "stackLaws", unfollowed := true, recurses := true, plainKeys := false, apart := false, narrowed := true }
def StackLawsUptoSaid : Prop := stackLawsUptoRow.holds Try.pinned (OpenSpec.upto stackLawsSpec)

/-- 'pollardlaw19.StackShared', WHERE WHAT IT READS IS OF BULK AT MOST 1048576: true; the input reads as it did. -/
def stackSharedUptoRow : OpenClaim := { program := "ytfnmdmadaljjkaa", sum := "eb52af5f4d9648f56c8955da260e97722ab9c4a0c2d1371c3f5d68bb42e89df6", func := "pollard/pollardlaw19.StackShared", spec := "stackShared", unfollowed := true, recurses := true, plainKeys := false, apart := false, narrowed := true }
def StackSharedUptoSaid : Prop := stackSharedUptoRow.holds Try.pinned (OpenSpec.upto stackSharedSpec)

end Rows
end Go.Proofs.Ytfnmdmadaljjkaa
