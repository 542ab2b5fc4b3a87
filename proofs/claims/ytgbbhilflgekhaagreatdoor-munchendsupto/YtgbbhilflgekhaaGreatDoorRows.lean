/-
  NARROWER THAN 'FOR EVERY INPUT', by the rows' own cells (each row's printed sentence says how): MunchNext: loops, laid · MunchEvery: loops, laid · MunchEnds: loops, laid.
  DERIVED. THE GIVEN ROWS OF THIS SEAT. 3 by the template 'for every input the law returns true; each argument reads behind the call as it read before'; 0 by the template 'total and deterministic' (their statements: YtgbbhilflgekhaaGreatDoorTotals.lean).
  GIVEN WITH THE SEED: the statements are not yours to turn. If you find one false, say at which input.
  Laid BY PROGRAM, IN A SANDBOX (cutbox-rows.mjs): the forced cells as the released guide's own fill.sh prints them over the translation 7ee135c35cc1dd4d… (all of the seat's roots in one cut). By AI agents, Wed Nov 11 2026. No macro, syntax, notation, axiom, sorry.
-/
import Derived.Test.YtgbbhilflgekhaaGreatDoorChecked
import GoSem.PinnedTables
import GoSem.Claim
import GoSem.ClaimJoined
import GoSem.ClaimMapViews
import Derived.JoinedTies
import Derived.KernelRfl
namespace Go.Proofs.YtgbbhilflgekhaaGreatDoor
/- THE CELL 'sum', in the pinned program and in every row, IS THE sha256 OF THE DUMP (.gsa) THAT YtgbbhilflgekhaaGreatDoorProg.lean LOADS. Nothing in Lean hashes anything: it is a label: what it is worth is what the hold of that sum in a sandbox is worth. -/
noncomputable def Tryz.pinned : Pinned := { name := "ytgbbhilflgekhaagreatdoor", sum := "7ee135c35cc1dd4d8322ae741679503622c8e27bf8328394fb5ca8f94f1ab218", checked := Tryz.checked }
namespace Rows
def none {H : Type} : Left H := { results := [], args := [] }

/- WHAT THE LISTED PACKAGE-LEVEL VARIABLES READ AS WHEN THE CALL BEGINS. Each datum BY PROGRAM (the guide's laid-datum.mjs) off the statement by which the dump's own 'gosem.cut.vars' lays the variable. In a bare row this is a premise. The card (YtgbbhilflgekhaaGreatDoorCards.lean) ties it to the program's text. -/
def laid_unicode_utf8_acceptRanges {H : Type} : DataW H := .agg [.agg [.lit (.int .u8 128), .lit (.int .u8 191)], .agg [.lit (.int .u8 160), .lit (.int .u8 191)], .agg [.lit (.int .u8 128), .lit (.int .u8 159)], .agg [.lit (.int .u8 144), .lit (.int .u8 191)], .agg [.lit (.int .u8 128), .lit (.int .u8 143)], .agg [.lit (.int .u8 0), .lit (.int .u8 0)], .agg [.lit (.int .u8 0), .lit (.int .u8 0)], .agg [.lit (.int .u8 0), .lit (.int .u8 0)], .agg [.lit (.int .u8 0), .lit (.int .u8 0)], .agg [.lit (.int .u8 0), .lit (.int .u8 0)], .agg [.lit (.int .u8 0), .lit (.int .u8 0)], .agg [.lit (.int .u8 0), .lit (.int .u8 0)], .agg [.lit (.int .u8 0), .lit (.int .u8 0)], .agg [.lit (.int .u8 0), .lit (.int .u8 0)], .agg [.lit (.int .u8 0), .lit (.int .u8 0)], .agg [.lit (.int .u8 0), .lit (.int .u8 0)]]
/-- One of Go's own tables, pinned by name: the form's constant. -/
def laid_unicode_utf8_first : DataW Unit := Go.Pinned.utf8First

/-- 'pollardlaw16.MunchNext': WHATEVER THE INPUT: true; the input reads as it did. -/
def munchNextSpec : ChangeSpec := { name := "munchNext", fn := fun _ => fun
  | [d1, d2, d3, d4, d5] => { results := [.lit (.bool true)], args := [d1, d2, d3, d4, d5] }
  | _ => none }
def munchNextRow : OpenClaim := { program := "ytgbbhilflgekhaagreatdoor", sum := "7ee135c35cc1dd4d8322ae741679503622c8e27bf8328394fb5ca8f94f1ab218", func := "pollard/pollardlaw16.MunchNext", spec := "munchNext", unfollowed := true, recurses := true, named := ["unicode/utf8.first", "unicode/utf8.acceptRanges"], loops := true, plainKeys := false, apart := false, laid := [("unicode/utf8.acceptRanges", laid_unicode_utf8_acceptRanges), ("unicode/utf8.first", laid_unicode_utf8_first)] }
def MunchNextSaid : Prop := munchNextRow.holds Tryz.pinned (OpenSpec.ofChange munchNextSpec)

/-- ITS FALSE NEIGHBOUR: 'it returns false'. Refute it at one input. -/
def munchNextWrong : ChangeSpec := { name := "munchNext", fn := fun _ => fun
  | [d1, d2, d3, d4, d5] => { results := [.lit (.bool false)], args := [d1, d2, d3, d4, d5] }
  | _ => none }
def MunchNextWrongFalsely : Prop := munchNextRow.holds Tryz.pinned (OpenSpec.ofChange munchNextWrong)

/-- 'pollardlaw16.MunchEvery': WHATEVER THE INPUT: true; the input reads as it did. -/
def munchEverySpec : ChangeSpec := { name := "munchEvery", fn := fun _ => fun
  | [d1, d2, d3, d4] => { results := [.lit (.bool true)], args := [d1, d2, d3, d4] }
  | _ => none }
def munchEveryRow : OpenClaim := { program := "ytgbbhilflgekhaagreatdoor", sum := "7ee135c35cc1dd4d8322ae741679503622c8e27bf8328394fb5ca8f94f1ab218", func := "pollard/pollardlaw16.MunchEvery", spec := "munchEvery", unfollowed := true, recurses := true, named := ["unicode/utf8.first", "unicode/utf8.acceptRanges"], loops := true, plainKeys := false, apart := false, laid := [("unicode/utf8.acceptRanges", laid_unicode_utf8_acceptRanges), ("unicode/utf8.first", laid_unicode_utf8_first)] }
def MunchEverySaid : Prop := munchEveryRow.holds Tryz.pinned (OpenSpec.ofChange munchEverySpec)

/-- ITS FALSE NEIGHBOUR: 'it returns false'. Refute it at one input. -/
def munchEveryWrong : ChangeSpec := { name := "munchEvery", fn := fun _ => fun
  | [d1, d2, d3, d4] => { results := [.lit (.bool false)], args := [d1, d2, d3, d4] }
  | _ => none }
def MunchEveryWrongFalsely : Prop := munchEveryRow.holds Tryz.pinned (OpenSpec.ofChange munchEveryWrong)

/-- 'pollardlaw16.MunchEnds': WHATEVER THE INPUT: true; the input reads as it did. -/
def munchEndsSpec : ChangeSpec := { name := "munchEnds", fn := fun _ => fun
  | [d1, d2, d3, d4, d5, d6, d7] => { results := [.lit (.bool true)], args := [d1, d2, d3, d4, d5, d6, d7] }
  | _ => none }
def munchEndsRow : OpenClaim := { program := "ytgbbhilflgekhaagreatdoor", sum := "7ee135c35cc1dd4d8322ae741679503622c8e27bf8328394fb5ca8f94f1ab218", func := "pollard/pollardlaw16.MunchEnds", spec := "munchEnds", unfollowed := true, recurses := true, named := ["unicode/utf8.first", "unicode/utf8.acceptRanges"], loops := true, plainKeys := false, apart := false, laid := [("unicode/utf8.acceptRanges", laid_unicode_utf8_acceptRanges), ("unicode/utf8.first", laid_unicode_utf8_first)] }
def MunchEndsSaid : Prop := munchEndsRow.holds Tryz.pinned (OpenSpec.ofChange munchEndsSpec)

/-- ITS FALSE NEIGHBOUR: 'it returns false'. Refute it at one input. -/
def munchEndsWrong : ChangeSpec := { name := "munchEnds", fn := fun _ => fun
  | [d1, d2, d3, d4, d5, d6, d7] => { results := [.lit (.bool false)], args := [d1, d2, d3, d4, d5, d6, d7] }
  | _ => none }
def MunchEndsWrongFalsely : Prop := munchEndsRow.holds Tryz.pinned (OpenSpec.ofChange munchEndsWrong)

/- THE SECOND FORM. 'bulk': how many values and letters a reading holds, each counted each time it is reached (what is shared counts as often as it is met; a slice's spare places count too). A statement '..UptoSaid' is the law's where the arguments, and the package variables that the reading takes, are together of bulk at most 1048576: NARROWER than '..Said'. Prove '..Said' where nothing that the law and all that it calls make is longer than what came in: it says more and counts as full. Else prove '..UptoSaid'. A law counts once. -/
mutual
def uptoBulk {H : Type} : DataW H → Nat
  | .lit (.string bytes) => bytes.length + 1
  | .lit _ => 1
  | .nil => 1
  | .ptr d => uptoBulk d + 1
  | .slice elems spare => uptoBulkAll elems + uptoBulkAll spare + 1
  | .agg parts => uptoBulkAll parts + 1
  | .iface _ d => uptoBulk d + 1
  | .map entries => uptoBulkEntries entries + 1
  | .held _ => 1
def uptoBulkAll {H : Type} : List (DataW H) → Nat
  | [] => 0
  | d :: r => uptoBulk d + uptoBulkAll r
def uptoBulkEntries {H : Type} : List (Lit × DataW H) → Nat
  | [] => 0
  | x :: r => uptoBulkEntry x + uptoBulkEntries r
def uptoBulkEntry {H : Type} : Lit × DataW H → Nat
  | (.string bytes, d) => bytes.length + uptoBulk d + 1
  | (_, d) => uptoBulk d + 1
 end
def uptoSmall : (H : Type) → List (DataW H) → Bool := fun _ ds => decide (uptoBulkAll ds ≤ 1048576)
def OpenSpec.upto (s : _root_.Go.ChangeSpec) : _root_.Go.OpenSpec := { _root_.Go.OpenSpec.ofChange s with cond := some uptoSmall }

/-- 'pollardlaw16.MunchNext', WHERE WHAT IT READS IS OF BULK AT MOST 1048576: true; the input reads as it did. -/
def munchNextUptoRow : OpenClaim := { program := "ytgbbhilflgekhaagreatdoor", sum := "7ee135c35cc1dd4d8322ae741679503622c8e27bf8328394fb5ca8f94f1ab218", func := "pollard/pollardlaw16.MunchNext", spec := "munchNext", unfollowed := true, recurses := true, named := ["unicode/utf8.first", "unicode/utf8.acceptRanges"], loops := true, plainKeys := false, apart := false, laid := [("unicode/utf8.acceptRanges", laid_unicode_utf8_acceptRanges), ("unicode/utf8.first", laid_unicode_utf8_first)], narrowed := true }
def MunchNextUptoSaid : Prop := munchNextUptoRow.holds Tryz.pinned (OpenSpec.upto munchNextSpec)

/-- 'pollardlaw16.MunchEvery', WHERE WHAT IT READS IS OF BULK AT MOST 1048576: true; the input reads as it did. -/
def munchEveryUptoRow : OpenClaim := { program := "ytgbbhilflgekhaagreatdoor", sum := "7ee135c35cc1dd4d8322ae741679503622c8e27bf8328394fb5ca8f94f1ab218", func := "pollard/pollardlaw16.MunchEvery", spec := "munchEvery", unfollowed := true, recurses := true, named := ["unicode/utf8.first", "unicode/utf8.acceptRanges"], loops := true, plainKeys := false, apart := false, laid := [("unicode/utf8.acceptRanges", laid_unicode_utf8_acceptRanges), ("unicode/utf8.first", laid_unicode_utf8_first)], narrowed := true }
def MunchEveryUptoSaid : Prop := munchEveryUptoRow.holds Tryz.pinned (OpenSpec.upto munchEverySpec)

/-- 'pollardlaw16.MunchEnds', WHERE WHAT IT READS IS OF BULK AT MOST 1048576: true; the input reads as it did. -/
def munchEndsUptoRow : OpenClaim := { program := "ytgbbhilflgekhaagreatdoor", sum := "7ee135c35cc1dd4d8322ae741679503622c8e27bf8328394fb5ca8f94f1ab218", func := "pollard/pollardlaw16.MunchEnds", spec := "munchEnds", unfollowed := true, recurses := true, named := ["unicode/utf8.first", "unicode/utf8.acceptRanges"], loops := true, plainKeys := false, apart := false, laid := [("unicode/utf8.acceptRanges", laid_unicode_utf8_acceptRanges), ("unicode/utf8.first", laid_unicode_utf8_first)], narrowed := true }
def MunchEndsUptoSaid : Prop := munchEndsUptoRow.holds Tryz.pinned (OpenSpec.upto munchEndsSpec)

end Rows
end Go.Proofs.YtgbbhilflgekhaaGreatDoor
