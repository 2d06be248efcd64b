/-
  DERIVED. GIVEN WITH THE SEED: THE CARDS: each row of YtmloccinejhopaaDoorRows.lean that lists a variable, with what it lists TIED to the program's text (the seventh form; the later family's looks); each row that meets fmt, with fmt's text TOLD by the authors' own Lean function (tested against real Go, not proved from fmt's source: count such statements apart). THE CARD IS WHAT COUNTS. Prove the row's statement (the work); the ties are given (YtmloccinejhopaaDoorTie.lean); close each card by the builder's one call (the guide's Derived/Test/ToyasCard.lean, 'card_holds'). Laid BY PROGRAM, IN A SANDBOX (cutbox-door.mjs). By AI agents, Wed Nov 11 2026. No macro, syntax, notation, axiom, sorry.
-/
import Derived.Test.YtmloccinejhopaaDoorRows
import GoSem.ClaimSeven
namespace Go.Proofs.YtmloccinejhopaaDoor
namespace Rows

/-- THE TIED CARD OF 'thimblelaw02.QuoteWrites'. -/
def quoteWritesCard : Claim7 := { stood := { row := quoteWritesRow, standIns := [], harness := (true, "a223b17206ef01a733b55e207df91985b68d590d4f31e7b5905d41c4e11b7b14"), looks := false }, kinds := [], alts := [], laidByText := true, laidKinds := [.data, .pinned], laidTests := true, laidLooks := .later }
def QuoteWritesCardSaid : Prop := Claim7.holds Tryd.pinned (.plain (OpenSpec.ofChange quoteWritesSpec)) quoteWritesCard

/-- THE TIED CARD OF 'thimblelaw02.QuoteReads'. -/
def quoteReadsCard : Claim7 := { stood := { row := quoteReadsRow, standIns := [], harness := (true, "a223b17206ef01a733b55e207df91985b68d590d4f31e7b5905d41c4e11b7b14"), looks := false }, kinds := [], alts := [], laidByText := true, laidKinds := [.data, .pinned], laidTests := true, laidLooks := .later }
def QuoteReadsCardSaid : Prop := Claim7.holds Tryd.pinned (.plain (OpenSpec.ofChange quoteReadsSpec)) quoteReadsCard

/-- THE TIED CARD OF 'thimblelaw02.QuoteBack'. -/
def quoteBackCard : Claim7 := { stood := { row := quoteBackRow, standIns := [], harness := (true, "a223b17206ef01a733b55e207df91985b68d590d4f31e7b5905d41c4e11b7b14"), looks := false }, kinds := [], alts := [], laidByText := true, laidKinds := [.data, .pinned], laidTests := true, laidLooks := .later }
def QuoteBackCardSaid : Prop := Claim7.holds Tryd.pinned (.plain (OpenSpec.ofChange quoteBackSpec)) quoteBackCard

/-- THE TIED CARD OF 'thimblelaw02.QuoteCuts'. -/
def quoteCutsCard : Claim7 := { stood := { row := quoteCutsRow, standIns := [], harness := (true, "a223b17206ef01a733b55e207df91985b68d590d4f31e7b5905d41c4e11b7b14"), looks := false }, kinds := [], alts := [], laidByText := true, laidKinds := [.data, .pinned], laidTests := true, laidLooks := .later }
def QuoteCutsCardSaid : Prop := Claim7.holds Tryd.pinned (.plain (OpenSpec.ofChange quoteCutsSpec)) quoteCutsCard

/-- THE TIED CARD OF 'thimblelaw02.QuoteClean'. -/
def quoteCleanCard : Claim7 := { stood := { row := quoteCleanRow, standIns := [], harness := (true, "a223b17206ef01a733b55e207df91985b68d590d4f31e7b5905d41c4e11b7b14"), looks := false }, kinds := [], alts := [], laidByText := true, laidKinds := [.data, .pinned], laidTests := true, laidLooks := .later }
def QuoteCleanCardSaid : Prop := Claim7.holds Tryd.pinned (.plain (OpenSpec.ofChange quoteCleanSpec)) quoteCleanCard

/-- THE TIED CARD OF 'thimblelaw02.QuoteOnce'. -/
def quoteOnceCard : Claim7 := { stood := { row := quoteOnceRow, standIns := [], harness := (true, "a223b17206ef01a733b55e207df91985b68d590d4f31e7b5905d41c4e11b7b14"), looks := false }, kinds := [], alts := [], laidByText := true, laidKinds := [.data, .pinned], laidTests := true, laidLooks := .later }
def QuoteOnceCardSaid : Prop := Claim7.holds Tryd.pinned (.plain (OpenSpec.ofChange quoteOnceSpec)) quoteOnceCard

/-- THE SECOND FORM's CARD OF 'thimblelaw02.QuoteWrites'. -/
def quoteWritesUptoCard : Claim7 := { stood := { row := quoteWritesUptoRow, standIns := [], harness := (true, "a223b17206ef01a733b55e207df91985b68d590d4f31e7b5905d41c4e11b7b14"), looks := false }, kinds := [], alts := [], laidByText := true, laidKinds := [.data, .pinned], laidTests := true, laidLooks := .later }
def QuoteWritesUptoCardSaid : Prop := Claim7.holds Tryd.pinned (.plain (OpenSpec.upto quoteWritesSpec)) quoteWritesUptoCard

/-- THE SECOND FORM's CARD OF 'thimblelaw02.QuoteReads'. -/
def quoteReadsUptoCard : Claim7 := { stood := { row := quoteReadsUptoRow, standIns := [], harness := (true, "a223b17206ef01a733b55e207df91985b68d590d4f31e7b5905d41c4e11b7b14"), looks := false }, kinds := [], alts := [], laidByText := true, laidKinds := [.data, .pinned], laidTests := true, laidLooks := .later }
def QuoteReadsUptoCardSaid : Prop := Claim7.holds Tryd.pinned (.plain (OpenSpec.upto quoteReadsSpec)) quoteReadsUptoCard

/-- THE SECOND FORM's CARD OF 'thimblelaw02.QuoteBack'. -/
def quoteBackUptoCard : Claim7 := { stood := { row := quoteBackUptoRow, standIns := [], harness := (true, "a223b17206ef01a733b55e207df91985b68d590d4f31e7b5905d41c4e11b7b14"), looks := false }, kinds := [], alts := [], laidByText := true, laidKinds := [.data, .pinned], laidTests := true, laidLooks := .later }
def QuoteBackUptoCardSaid : Prop := Claim7.holds Tryd.pinned (.plain (OpenSpec.upto quoteBackSpec)) quoteBackUptoCard

/-- THE SECOND FORM's CARD OF 'thimblelaw02.QuoteCuts'. -/
def quoteCutsUptoCard : Claim7 := { stood := { row := quoteCutsUptoRow, standIns := [], harness := (true, "a223b17206ef01a733b55e207df91985b68d590d4f31e7b5905d41c4e11b7b14"), looks := false }, kinds := [], alts := [], laidByText := true, laidKinds := [.data, .pinned], laidTests := true, laidLooks := .later }
def QuoteCutsUptoCardSaid : Prop := Claim7.holds Tryd.pinned (.plain (OpenSpec.upto quoteCutsSpec)) quoteCutsUptoCard

/-- THE SECOND FORM's CARD OF 'thimblelaw02.QuoteClean'. -/
def quoteCleanUptoCard : Claim7 := { stood := { row := quoteCleanUptoRow, standIns := [], harness := (true, "a223b17206ef01a733b55e207df91985b68d590d4f31e7b5905d41c4e11b7b14"), looks := false }, kinds := [], alts := [], laidByText := true, laidKinds := [.data, .pinned], laidTests := true, laidLooks := .later }
def QuoteCleanUptoCardSaid : Prop := Claim7.holds Tryd.pinned (.plain (OpenSpec.upto quoteCleanSpec)) quoteCleanUptoCard

/-- THE SECOND FORM's CARD OF 'thimblelaw02.QuoteOnce'. -/
def quoteOnceUptoCard : Claim7 := { stood := { row := quoteOnceUptoRow, standIns := [], harness := (true, "a223b17206ef01a733b55e207df91985b68d590d4f31e7b5905d41c4e11b7b14"), looks := false }, kinds := [], alts := [], laidByText := true, laidKinds := [.data, .pinned], laidTests := true, laidLooks := .later }
def QuoteOnceUptoCardSaid : Prop := Claim7.holds Tryd.pinned (.plain (OpenSpec.upto quoteOnceSpec)) quoteOnceUptoCard
end Rows
end Go.Proofs.YtmloccinejhopaaDoor
