/-
  DERIVED. GIVEN WITH THE SEED: THE CARDS: each row of YtkccjgllanpebaaGreatDoorRows.lean that lists a variable, with what it lists TIED to the program's text (the seventh form; the later family's looks); each row that meets fmt, with fmt's text TOLD by the authors' own Lean function (tested against real Go, not proved from fmt's source: count such statements apart). THE CARD IS WHAT COUNTS. Prove the row's statement (the work); the ties are given (YtkccjgllanpebaaGreatDoorTie.lean); close each card by the builder's one call (the guide's Derived/Test/ToyasCard.lean, 'card_holds'). Laid BY PROGRAM, IN A SANDBOX (cutbox-door.mjs). By AI agents, Wed Nov 11 2026. No macro, syntax, notation, axiom, sorry.
-/
import Derived.Test.YtkccjgllanpebaaGreatDoorRows
import GoSem.ClaimSeven
namespace Go.Proofs.YtkccjgllanpebaaGreatDoor
namespace Rows

/-- THE TIED CARD OF 'thimbletop.TopSorts'. -/
def topSortsCard : Claim7 := { stood := { row := topSortsRow, standIns := [], harness := (true, "6c2f5b1a7fa19fdfc673c51bcfc7ae87ce5c31b5c1f16e58656acc42a3a162f4"), looks := true }, kinds := [], alts := [], laidByText := true, laidKinds := [.data, .data, .data, .data, .data, .pinned], laidTests := true, laidLooks := .later }
def TopSortsCardSaid : Prop := Claim7.holds Tryz.pinned (.plain (OpenSpec.ofChange topSortsSpec)) topSortsCard

/-- THE SECOND FORM's CARD OF 'thimbletop.TopSorts'. -/
def topSortsUptoCard : Claim7 := { stood := { row := topSortsUptoRow, standIns := [], harness := (true, "6c2f5b1a7fa19fdfc673c51bcfc7ae87ce5c31b5c1f16e58656acc42a3a162f4"), looks := true }, kinds := [], alts := [], laidByText := true, laidKinds := [.data, .data, .data, .data, .data, .pinned], laidTests := true, laidLooks := .later }
def TopSortsUptoCardSaid : Prop := Claim7.holds Tryz.pinned (.plain (OpenSpec.upto topSortsSpec)) topSortsUptoCard
end Rows
end Go.Proofs.YtkccjgllanpebaaGreatDoor
