/-
  NARROWER THAN 'FOR EVERY INPUT', by the rows' own cells (each row's printed sentence says how): LeftCan: loops · LeftBack: loops · LeftKept: loops.
  DERIVED. THE GIVEN ROWS OF THIS SEAT. 3 by the template 'for every input the law returns true; each argument reads behind the call as it read before'; 0 by the template 'total and deterministic' (their statements: YtkbnnipiacajoaaTotals.lean).
  GIVEN WITH THE SEED: the statements are not yours to turn. If you find one false, say at which input.
  Laid BY PROGRAM, IN A SANDBOX (cutbox-rows.mjs): the forced cells as the released guide's own fill.sh prints them over the translation 8e7427581c806482… (all of the seat's roots in one cut). By AI agents, Wed Nov 11 2026. No macro, syntax, notation, axiom, sorry.
-/
import Derived.Test.YtkbnnipiacajoaaChecked
import GoSem.Claim
import GoSem.ClaimJoined
import GoSem.ClaimMapViews
import Derived.JoinedTies
import Derived.KernelRfl
namespace Go.Proofs.Ytkbnnipiacajoaa
/- THE CELL 'sum', in the pinned program and in every row, IS THE sha256 OF THE DUMP (.gsa) THAT YtkbnnipiacajoaaProg.lean LOADS. Nothing in Lean hashes anything: it is a label: what it is worth is what the hold of that sum in a sandbox is worth. -/
noncomputable def Try.pinned : Pinned := { name := "ytkbnnipiacajoaa", sum := "8e7427581c8064824a338ecef30f04ca457df1f619acfa777e3879b684bd7b3b", checked := Try.checked }
namespace Rows
def none {H : Type} : Left H := { results := [], args := [] }

/-- 'pollardlaw09.LeftCan': WHATEVER THE INPUT: true; the input reads as it did. -/
def leftCanSpec : ChangeSpec := { name := "leftCan", fn := fun _ => fun
  | [d1, d2] => { results := [.lit (.bool true)], args := [d1, d2] }
  | _ => none }
def leftCanRow : OpenClaim := { program := "ytkbnnipiacajoaa", sum := "8e7427581c8064824a338ecef30f04ca457df1f619acfa777e3879b684bd7b3b", func := "pollard/pollardlaw09.LeftCan", spec := "leftCan", unfollowed := true, recurses := true, loops := true, apart := false }
def LeftCanSaid : Prop := leftCanRow.holds Try.pinned (OpenSpec.ofChange leftCanSpec)

/-- ITS FALSE NEIGHBOUR: 'it returns false'. Refute it at one input. -/
def leftCanWrong : ChangeSpec := { name := "leftCan", fn := fun _ => fun
  | [d1, d2] => { results := [.lit (.bool false)], args := [d1, d2] }
  | _ => none }
def LeftCanWrongFalsely : Prop := leftCanRow.holds Try.pinned (OpenSpec.ofChange leftCanWrong)

/-- 'pollardlaw09.LeftBack': WHATEVER THE INPUT: true; the input reads as it did. -/
def leftBackSpec : ChangeSpec := { name := "leftBack", fn := fun _ => fun
  | [d] => { results := [.lit (.bool true)], args := [d] }
  | _ => none }
def leftBackRow : OpenClaim := { program := "ytkbnnipiacajoaa", sum := "8e7427581c8064824a338ecef30f04ca457df1f619acfa777e3879b684bd7b3b", func := "pollard/pollardlaw09.LeftBack", spec := "leftBack", unfollowed := true, recurses := true, loops := true, apart := false }
def LeftBackSaid : Prop := leftBackRow.holds Try.pinned (OpenSpec.ofChange leftBackSpec)

/-- ITS FALSE NEIGHBOUR: 'it returns false'. Refute it at one input. -/
def leftBackWrong : ChangeSpec := { name := "leftBack", fn := fun _ => fun
  | [d] => { results := [.lit (.bool false)], args := [d] }
  | _ => none }
def LeftBackWrongFalsely : Prop := leftBackRow.holds Try.pinned (OpenSpec.ofChange leftBackWrong)

/-- 'pollardlaw09.LeftKept': WHATEVER THE INPUT: true; the input reads as it did. -/
def leftKeptSpec : ChangeSpec := { name := "leftKept", fn := fun _ => fun
  | [d] => { results := [.lit (.bool true)], args := [d] }
  | _ => none }
def leftKeptRow : OpenClaim := { program := "ytkbnnipiacajoaa", sum := "8e7427581c8064824a338ecef30f04ca457df1f619acfa777e3879b684bd7b3b", func := "pollard/pollardlaw09.LeftKept", spec := "leftKept", unfollowed := true, recurses := true, loops := true, apart := false }
def LeftKeptSaid : Prop := leftKeptRow.holds Try.pinned (OpenSpec.ofChange leftKeptSpec)

/-- ITS FALSE NEIGHBOUR: 'it returns false'. Refute it at one input. -/
def leftKeptWrong : ChangeSpec := { name := "leftKept", fn := fun _ => fun
  | [d] => { results := [.lit (.bool false)], args := [d] }
  | _ => none }
def LeftKeptWrongFalsely : Prop := leftKeptRow.holds Try.pinned (OpenSpec.ofChange leftKeptWrong)

/- THE SECOND FORM. 'bulk': how many values and letters a reading holds, each counted each time it is reached (what is shared counts as often as it is met; a slice's spare places count too). A statement '..UptoSaid' is the law's where the arguments, and the package variables that the reading takes, are together of bulk at most 1048576: NARROWER than '..Said'. Prove '..Said' where nothing that the law and all that it calls make is longer than what came in: it says more and counts as full. Else prove '..UptoSaid'. A law counts once. -/
mutual
def uptoBulk {H : Type} : DataW H → Nat
  | .lit (.string bytes) => bytes.length + 1
  | .lit _ => 1
  | .nil => 1
  | .ptr d => uptoBulk d + 1
  | .slice elems spare => uptoBulkAll elems + uptoBulkAll spare + 1
  | .agg parts => uptoBulkAll parts + 1
  | .iface _ d => uptoBulk d + 1
  | .map entries => uptoBulkEntries entries + 1
  | .held _ => 1
def uptoBulkAll {H : Type} : List (DataW H) → Nat
  | [] => 0
  | d :: r => uptoBulk d + uptoBulkAll r
def uptoBulkEntries {H : Type} : List (Lit × DataW H) → Nat
  | [] => 0
  | x :: r => uptoBulkEntry x + uptoBulkEntries r
def uptoBulkEntry {H : Type} : Lit × DataW H → Nat
  | (.string bytes, d) => bytes.length + uptoBulk d + 1
  | (_, d) => uptoBulk d + 1
 end
def uptoSmall : (H : Type) → List (DataW H) → Bool := fun _ ds => decide (uptoBulkAll ds ≤ 1048576)
def OpenSpec.upto (s : _root_.Go.ChangeSpec) : _root_.Go.OpenSpec := { _root_.Go.OpenSpec.ofChange s with cond := some uptoSmall }

/-- 'pollardlaw09.LeftCan', WHERE WHAT IT READS IS OF BULK AT MOST 1048576: true; the input reads as it did. -/
def leftCanUptoRow : OpenClaim := { program := "ytkbnnipiacajoaa", sum := "8e7427581c8064824a338ecef30f04ca457df1f619acfa777e3879b684bd7b3b", func := "pollard/pollardlaw09.LeftCan", spec := "leftCan", unfollowed := true, recurses := true, loops := true, apart := false, narrowed := true }
def LeftCanUptoSaid : Prop := leftCanUptoRow.holds Try.pinned (OpenSpec.upto leftCanSpec)

/-- 'pollardlaw09.LeftBack', WHERE WHAT IT READS IS OF BULK AT MOST 1048576: true; the input reads as it did. -/
def leftBackUptoRow : OpenClaim := { program := "ytkbnnipiacajoaa", sum := "8e7427581c8064824a338ecef30f04ca457df1f619acfa777e3879b684bd7b3b", func := "pollard/pollardlaw09.LeftBack", spec := "leftBack", unfollowed := true, recurses := true, loops := true, apart := false, narrowed := true }
def LeftBackUptoSaid : Prop := leftBackUptoRow.holds Try.pinned (OpenSpec.upto leftBackSpec)

/-- 'pollardlaw09.LeftKept', WHERE WHAT IT READS IS OF BULK AT MOST 1048576: true; the input reads as it did. -/
def leftKeptUptoRow : OpenClaim := { program := "ytkbnnipiacajoaa", sum := "8e7427581c8064824a338ecef30f04ca457df1f619acfa777e3879b684bd7b3b", func := "pollard/pollardlaw09.LeftKept", spec := "leftKept", unfollowed := true, recurses := true, loops := true, apart := false, narrowed := true }
def LeftKeptUptoSaid : Prop := leftKeptUptoRow.holds Try.pinned (OpenSpec.upto leftKeptSpec)

end Rows
end Go.Proofs.Ytkbnnipiacajoaa
