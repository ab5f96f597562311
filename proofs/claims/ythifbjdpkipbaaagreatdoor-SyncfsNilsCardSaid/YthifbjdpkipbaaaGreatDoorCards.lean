/-
  DERIVED. GIVEN WITH THE SEED: THE CARDS: each row of YthifbjdpkipbaaaGreatDoorRows.lean that lists a variable, with what it lists TIED to the program's text (the seventh form; the later family's looks); each row that meets fmt, with fmt's text TOLD by the authors' own Lean function (tested against real Go, not proved from fmt's source: count such statements apart). THE CARD IS WHAT COUNTS. Prove the row's statement (the work); the ties are given (YthifbjdpkipbaaaGreatDoorTie.lean); close each card by the builder's one call (the guide's Derived/Test/ToyasCard.lean, 'card_holds'). Laid BY PROGRAM, IN A SANDBOX (cutbox-door.mjs). By AI agents, Wed Nov 11 2026. No macro, syntax, notation, axiom, sorry.
-/
import Derived.Test.YthifbjdpkipbaaaGreatDoorRows
import GoSem.ClaimSeven
namespace Go.Proofs.YthifbjdpkipbaaaGreatDoor
namespace Rows

/-- THE TIED CARD OF 'cachettelaw26.SyncfsNils'. -/
def syncfsNilsCard : Claim7 := { stood := { row := syncfsNilsRow, standIns := [], harness := (true, "2d87d2bc0242c15a6129bc5dde489a2b4af7cf57b67172e6b8e0bb41c14bf01f"), looks := true }, kinds := [], alts := [], laidByText := true, laidKinds := [.data, .data, .data, .data, .pinned], laidTests := true, laidLooks := .later }
def SyncfsNilsCardSaid : Prop := Claim7.holds Tryz.pinned (.plain (OpenSpec.ofChange syncfsNilsSpec)) syncfsNilsCard

/-- THE SECOND FORM's CARD OF 'cachettelaw26.SyncfsNils'. -/
def syncfsNilsUptoCard : Claim7 := { stood := { row := syncfsNilsUptoRow, standIns := [], harness := (true, "2d87d2bc0242c15a6129bc5dde489a2b4af7cf57b67172e6b8e0bb41c14bf01f"), looks := true }, kinds := [], alts := [], laidByText := true, laidKinds := [.data, .data, .data, .data, .pinned], laidTests := true, laidLooks := .later }
def SyncfsNilsUptoCardSaid : Prop := Claim7.holds Tryz.pinned (.plain (OpenSpec.upto syncfsNilsSpec)) syncfsNilsUptoCard
end Rows
end Go.Proofs.YthifbjdpkipbaaaGreatDoor
