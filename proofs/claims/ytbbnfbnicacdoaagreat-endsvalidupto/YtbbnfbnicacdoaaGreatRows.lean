/-
  NARROWER THAN 'FOR EVERY INPUT', by the rows' own cells (each row's printed sentence says how): EndsTell: loops · EndsValid: loops.
  DERIVED. THE GIVEN ROWS OF THIS SEAT. 2 by the template 'for every input the law returns true; each argument reads behind the call as it read before'; 0 by the template 'total and deterministic' (their statements: YtbbnfbnicacdoaaGreatTotals.lean).
  GIVEN WITH THE SEED: the statements are not yours to turn. If you find one false, say at which input.
  Laid BY PROGRAM, IN A SANDBOX (cutbox-rows.mjs): the forced cells as the released guide's own fill.sh prints them over the translation 929d26c263191e76… (all of the seat's roots in one cut). By AI agents, Wed Nov 11 2026. No macro, syntax, notation, axiom, sorry.
-/
import Derived.Test.YtbbnfbnicacdoaaGreatChecked
import GoSem.Claim
import GoSem.ClaimJoined
import GoSem.ClaimMapViews
import Derived.JoinedTies
import Derived.KernelRfl
namespace Go.Proofs.YtbbnfbnicacdoaaGreat
/- THE CELL 'sum', in the pinned program and in every row, IS THE sha256 OF THE DUMP (.gsa) THAT YtbbnfbnicacdoaaGreatProg.lean LOADS. Nothing in Lean hashes anything: it is a label: what it is worth is what the hold of that sum in a sandbox is worth. -/
noncomputable def Tryz.pinned : Pinned := { name := "ytbbnfbnicacdoaagreat", sum := "929d26c263191e76e4e77129f35b393e739dd82f3cfb0021fad2d18f1614e695", checked := Tryz.checked }
namespace Rows
def none {H : Type} : Left H := { results := [], args := [] }

/-- 'pollardlaw20.EndsTell': WHATEVER THE INPUT: true; the input reads as it did. -/
def endsTellSpec : ChangeSpec := { name := "endsTell", fn := fun _ => fun
  | [d1, d2, d3] => { results := [.lit (.bool true)], args := [d1, d2, d3] }
  | _ => none }
def endsTellRow : OpenClaim := { program := "ytbbnfbnicacdoaagreat", sum := "929d26c263191e76e4e77129f35b393e739dd82f3cfb0021fad2d18f1614e695", func := "pollard/pollardlaw20.EndsTell", spec := "endsTell", unfollowed := true, recurses := true, loops := true, plainKeys := false, apart := false }
def EndsTellSaid : Prop := endsTellRow.holds Tryz.pinned (OpenSpec.ofChange endsTellSpec)

/-- ITS FALSE NEIGHBOUR: 'it returns false'. Refute it at one input. -/
def endsTellWrong : ChangeSpec := { name := "endsTell", fn := fun _ => fun
  | [d1, d2, d3] => { results := [.lit (.bool false)], args := [d1, d2, d3] }
  | _ => none }
def EndsTellWrongFalsely : Prop := endsTellRow.holds Tryz.pinned (OpenSpec.ofChange endsTellWrong)

/-- 'pollardlaw20.EndsValid': WHATEVER THE INPUT: true; the input reads as it did. -/
def endsValidSpec : ChangeSpec := { name := "endsValid", fn := fun _ => fun
  | [d1, d2, d3, d4] => { results := [.lit (.bool true)], args := [d1, d2, d3, d4] }
  | _ => none }
def endsValidRow : OpenClaim := { program := "ytbbnfbnicacdoaagreat", sum := "929d26c263191e76e4e77129f35b393e739dd82f3cfb0021fad2d18f1614e695", func := "pollard/pollardlaw20.EndsValid", spec := "endsValid", unfollowed := true, recurses := true, loops := true, plainKeys := false, apart := false }
def EndsValidSaid : Prop := endsValidRow.holds Tryz.pinned (OpenSpec.ofChange endsValidSpec)

/-- ITS FALSE NEIGHBOUR: 'it returns false'. Refute it at one input. -/
def endsValidWrong : ChangeSpec := { name := "endsValid", fn := fun _ => fun
  | [d1, d2, d3, d4] => { results := [.lit (.bool false)], args := [d1, d2, d3, d4] }
  | _ => none }
def EndsValidWrongFalsely : Prop := endsValidRow.holds Tryz.pinned (OpenSpec.ofChange endsValidWrong)

/- THE SECOND FORM. 'bulk': how many values and letters a reading holds, each counted each time it is reached (what is shared counts as often as it is met; a slice's spare places count too). A statement '..UptoSaid' is the law's where the arguments, and the package variables that the reading takes, are together of bulk at most 1048576: NARROWER than '..Said'. Prove '..Said' where nothing that the law and all that it calls make is longer than what came in: it says more and counts as full. Else prove '..UptoSaid'. A law counts once. -/
mutual
def uptoBulk {H : Type} : DataW H → Nat
  | .lit (.string bytes) => bytes.length + 1
  | .lit _ => 1
  | .nil => 1
  | .ptr d => uptoBulk d + 1
  | .slice elems spare => uptoBulkAll elems + uptoBulkAll spare + 1
  | .agg parts => uptoBulkAll parts + 1
  | .iface _ d => uptoBulk d + 1
  | .map entries => uptoBulkEntries entries + 1
  | .held _ => 1
def uptoBulkAll {H : Type} : List (DataW H) → Nat
  | [] => 0
  | d :: r => uptoBulk d + uptoBulkAll r
def uptoBulkEntries {H : Type} : List (Lit × DataW H) → Nat
  | [] => 0
  | x :: r => uptoBulkEntry x + uptoBulkEntries r
def uptoBulkEntry {H : Type} : Lit × DataW H → Nat
  | (.string bytes, d) => bytes.length + uptoBulk d + 1
  | (_, d) => uptoBulk d + 1
 end
def uptoSmall : (H : Type) → List (DataW H) → Bool := fun _ ds => decide (uptoBulkAll ds ≤ 1048576)
def OpenSpec.upto (s : _root_.Go.ChangeSpec) : _root_.Go.OpenSpec := { _root_.Go.OpenSpec.ofChange s with cond := some uptoSmall }

/-- 'pollardlaw20.EndsTell', WHERE WHAT IT READS IS OF BULK AT MOST 1048576: true; the input reads as it did. -/
def endsTellUptoRow : OpenClaim := { program := "ytbbnfbnicacdoaagreat", sum := "929d26c263191e76e4e77129f35b393e739dd82f3cfb0021fad2d18f1614e695", func := "pollard/pollardlaw20.EndsTell", spec := "endsTell", unfollowed := true, recurses := true, loops := true, plainKeys := false, apart := false, narrowed := true }
def EndsTellUptoSaid : Prop := endsTellUptoRow.holds Tryz.pinned (OpenSpec.upto endsTellSpec)

/-- 'pollardlaw20.EndsValid', WHERE WHAT IT READS IS OF BULK AT MOST 1048576: true; the input reads as it did. -/
def endsValidUptoRow : OpenClaim := { program := "ytbbnfbnicacdoaagreat", sum := "929d26c263191e76e4e77129f35b393e739dd82f3cfb0021fad2d18f1614e695", func := "pollard/pollardlaw20.EndsValid", spec := "endsValid", unfollowed := true, recurses := true, loops := true, plainKeys := false, apart := false, narrowed := true }
def EndsValidUptoSaid : Prop := endsValidUptoRow.holds Tryz.pinned (OpenSpec.upto endsValidSpec)

end Rows
end Go.Proofs.YtbbnfbnicacdoaaGreat
