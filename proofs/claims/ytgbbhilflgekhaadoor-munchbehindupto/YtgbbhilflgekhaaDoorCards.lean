/-
  DERIVED. GIVEN WITH THE SEED: THE CARDS: each row of YtgbbhilflgekhaaDoorRows.lean that lists a variable, with what it lists TIED to the program's text (the seventh form; the later family's looks); each row that meets fmt, with fmt's text TOLD by the authors' own Lean function (tested against real Go, not proved from fmt's source: count such statements apart). THE CARD IS WHAT COUNTS. Prove the row's statement (the work); the ties are given (YtgbbhilflgekhaaDoorTie.lean); close each card by the builder's one call (the guide's Derived/Test/ToyasCard.lean, 'card_holds'). Laid BY PROGRAM, IN A SANDBOX (cutbox-door.mjs). By AI agents, Wed Nov 11 2026. No macro, syntax, notation, axiom, sorry.
-/
import Derived.Test.YtgbbhilflgekhaaDoorRows
import GoSem.ClaimSeven
namespace Go.Proofs.YtgbbhilflgekhaaDoor
namespace Rows

/-- THE TIED CARD OF 'pollardlaw16.MunchBehind'. -/
def munchBehindCard : Claim7 := { stood := { row := munchBehindRow, standIns := [], harness := (true, "6d8a2223a6db16e8d0a9d89783c8549e6637b0ab95daa9e3498950c290c6e54a"), looks := false }, kinds := [], alts := [], laidByText := true, laidKinds := [.data, .pinned], laidTests := true, laidLooks := .later }
def MunchBehindCardSaid : Prop := Claim7.holds Tryd.pinned (.plain (OpenSpec.ofChange munchBehindSpec)) munchBehindCard

/-- THE TIED CARD OF 'pollardlaw16.MunchLongest'. -/
def munchLongestCard : Claim7 := { stood := { row := munchLongestRow, standIns := [], harness := (true, "6d8a2223a6db16e8d0a9d89783c8549e6637b0ab95daa9e3498950c290c6e54a"), looks := false }, kinds := [], alts := [], laidByText := true, laidKinds := [.data, .pinned], laidTests := true, laidLooks := .later }
def MunchLongestCardSaid : Prop := Claim7.holds Tryd.pinned (.plain (OpenSpec.ofChange munchLongestSpec)) munchLongestCard

/-- THE SECOND FORM's CARD OF 'pollardlaw16.MunchBehind'. -/
def munchBehindUptoCard : Claim7 := { stood := { row := munchBehindUptoRow, standIns := [], harness := (true, "6d8a2223a6db16e8d0a9d89783c8549e6637b0ab95daa9e3498950c290c6e54a"), looks := false }, kinds := [], alts := [], laidByText := true, laidKinds := [.data, .pinned], laidTests := true, laidLooks := .later }
def MunchBehindUptoCardSaid : Prop := Claim7.holds Tryd.pinned (.plain (OpenSpec.upto munchBehindSpec)) munchBehindUptoCard

/-- THE SECOND FORM's CARD OF 'pollardlaw16.MunchLongest'. -/
def munchLongestUptoCard : Claim7 := { stood := { row := munchLongestUptoRow, standIns := [], harness := (true, "6d8a2223a6db16e8d0a9d89783c8549e6637b0ab95daa9e3498950c290c6e54a"), looks := false }, kinds := [], alts := [], laidByText := true, laidKinds := [.data, .pinned], laidTests := true, laidLooks := .later }
def MunchLongestUptoCardSaid : Prop := Claim7.holds Tryd.pinned (.plain (OpenSpec.upto munchLongestSpec)) munchLongestUptoCard
end Rows
end Go.Proofs.YtgbbhilflgekhaaDoor
