/-
  DERIVED. GIVEN WITH THE SEED: THE CARDS: each row of YtbecblfbikahkaaGreatDoorRows.lean that lists a variable, with what it lists TIED to the program's text (the seventh form; the later family's looks); each row that meets fmt, with fmt's text TOLD by the authors' own Lean function (tested against real Go, not proved from fmt's source: count such statements apart). THE CARD IS WHAT COUNTS. Prove the row's statement (the work); the ties are given (YtbecblfbikahkaaGreatDoorTie.lean); close each card by the builder's one call (the guide's Derived/Test/ToyasCard.lean, 'card_holds'). Laid BY PROGRAM, IN A SANDBOX (cutbox-door.mjs). By AI agents, Wed Nov 11 2026. No macro, syntax, notation, axiom, sorry.
-/
import Derived.Test.YtbecblfbikahkaaGreatDoorRows
import GoSem.ClaimSeven
namespace Go.Proofs.YtbecblfbikahkaaGreatDoor
namespace Rows

/-- THE TIED CARD OF 'platenlaw13.CanonKeys'. -/
def canonKeysCard : Claim7 := { stood := { row := canonKeysRow, standIns := [], harness := (true, "120cb896c4c00e8da2c0e7aa2db7ea8e2166fe6c6fdcbf7a1faa054549371e49"), looks := true }, kinds := [], alts := [], laidByText := true, laidKinds := [.data, .handle, .listed, .data, .pinned, .pinned], laidTests := true, laidLooks := .later }
def CanonKeysCardSaid : Prop := Claim7.holds Tryz.pinned (.plain (OpenSpec.ofChange canonKeysSpec)) canonKeysCard

/-- THE SECOND FORM's CARD OF 'platenlaw13.CanonKeys'. -/
def canonKeysUptoCard : Claim7 := { stood := { row := canonKeysUptoRow, standIns := [], harness := (true, "120cb896c4c00e8da2c0e7aa2db7ea8e2166fe6c6fdcbf7a1faa054549371e49"), looks := true }, kinds := [], alts := [], laidByText := true, laidKinds := [.data, .handle, .listed, .data, .pinned, .pinned], laidTests := true, laidLooks := .later }
def CanonKeysUptoCardSaid : Prop := Claim7.holds Tryz.pinned (.plain (OpenSpec.upto canonKeysSpec)) canonKeysUptoCard
end Rows
end Go.Proofs.YtbecblfbikahkaaGreatDoor
