/-
  DERIVED. GIVEN WITH THE SEED: THE CARDS: each row of YtgbbhilflgekhaaGreatDoorRows.lean that lists a variable, with what it lists TIED to the program's text (the seventh form; the later family's looks); each row that meets fmt, with fmt's text TOLD by the authors' own Lean function (tested against real Go, not proved from fmt's source: count such statements apart). THE CARD IS WHAT COUNTS. Prove the row's statement (the work); the ties are given (YtgbbhilflgekhaaGreatDoorTie.lean); close each card by the builder's one call (the guide's Derived/Test/ToyasCard.lean, 'card_holds'). Laid BY PROGRAM, IN A SANDBOX (cutbox-door.mjs). By AI agents, Wed Nov 11 2026. No macro, syntax, notation, axiom, sorry.
-/
import Derived.Test.YtgbbhilflgekhaaGreatDoorRows
import GoSem.ClaimSeven
namespace Go.Proofs.YtgbbhilflgekhaaGreatDoor
namespace Rows

/-- THE TIED CARD OF 'pollardlaw16.MunchNext'. -/
def munchNextCard : Claim7 := { stood := { row := munchNextRow, standIns := [], harness := (true, "3493414ced2816f165f4b6c06a652d5c42826914158932da0f465133f775b523"), looks := false }, kinds := [], alts := [], laidByText := true, laidKinds := [.data, .pinned], laidTests := true, laidLooks := .later }
def MunchNextCardSaid : Prop := Claim7.holds Tryz.pinned (.plain (OpenSpec.ofChange munchNextSpec)) munchNextCard

/-- THE TIED CARD OF 'pollardlaw16.MunchEvery'. -/
def munchEveryCard : Claim7 := { stood := { row := munchEveryRow, standIns := [], harness := (true, "3493414ced2816f165f4b6c06a652d5c42826914158932da0f465133f775b523"), looks := false }, kinds := [], alts := [], laidByText := true, laidKinds := [.data, .pinned], laidTests := true, laidLooks := .later }
def MunchEveryCardSaid : Prop := Claim7.holds Tryz.pinned (.plain (OpenSpec.ofChange munchEverySpec)) munchEveryCard

/-- THE TIED CARD OF 'pollardlaw16.MunchEnds'. -/
def munchEndsCard : Claim7 := { stood := { row := munchEndsRow, standIns := [], harness := (true, "3493414ced2816f165f4b6c06a652d5c42826914158932da0f465133f775b523"), looks := false }, kinds := [], alts := [], laidByText := true, laidKinds := [.data, .pinned], laidTests := true, laidLooks := .later }
def MunchEndsCardSaid : Prop := Claim7.holds Tryz.pinned (.plain (OpenSpec.ofChange munchEndsSpec)) munchEndsCard

/-- THE SECOND FORM's CARD OF 'pollardlaw16.MunchNext'. -/
def munchNextUptoCard : Claim7 := { stood := { row := munchNextUptoRow, standIns := [], harness := (true, "3493414ced2816f165f4b6c06a652d5c42826914158932da0f465133f775b523"), looks := false }, kinds := [], alts := [], laidByText := true, laidKinds := [.data, .pinned], laidTests := true, laidLooks := .later }
def MunchNextUptoCardSaid : Prop := Claim7.holds Tryz.pinned (.plain (OpenSpec.upto munchNextSpec)) munchNextUptoCard

/-- THE SECOND FORM's CARD OF 'pollardlaw16.MunchEvery'. -/
def munchEveryUptoCard : Claim7 := { stood := { row := munchEveryUptoRow, standIns := [], harness := (true, "3493414ced2816f165f4b6c06a652d5c42826914158932da0f465133f775b523"), looks := false }, kinds := [], alts := [], laidByText := true, laidKinds := [.data, .pinned], laidTests := true, laidLooks := .later }
def MunchEveryUptoCardSaid : Prop := Claim7.holds Tryz.pinned (.plain (OpenSpec.upto munchEverySpec)) munchEveryUptoCard

/-- THE SECOND FORM's CARD OF 'pollardlaw16.MunchEnds'. -/
def munchEndsUptoCard : Claim7 := { stood := { row := munchEndsUptoRow, standIns := [], harness := (true, "3493414ced2816f165f4b6c06a652d5c42826914158932da0f465133f775b523"), looks := false }, kinds := [], alts := [], laidByText := true, laidKinds := [.data, .pinned], laidTests := true, laidLooks := .later }
def MunchEndsUptoCardSaid : Prop := Claim7.holds Tryz.pinned (.plain (OpenSpec.upto munchEndsSpec)) munchEndsUptoCard
end Rows
end Go.Proofs.YtgbbhilflgekhaaGreatDoor
