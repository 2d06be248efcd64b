/-
  DERIVED. GIVEN WITH THE SEED: THE CARDS: each row of YtoigogonccjagaaDoorRows.lean that lists a variable, with what it lists TIED to the program's text (the seventh form; the later family's looks); each row that meets fmt, with fmt's text TOLD by the authors' own Lean function (tested against real Go, not proved from fmt's source: count such statements apart). THE CARD IS WHAT COUNTS. Prove the row's statement (the work); the ties are given (YtoigogonccjagaaDoorTie.lean); close each card by the builder's one call (the guide's Derived/Test/ToyasCard.lean, 'card_holds'). Laid BY PROGRAM, IN A SANDBOX (cutbox-door.mjs). By AI agents, Wed Nov 11 2026. No macro, syntax, notation, axiom, sorry.
-/
import Derived.Test.YtoigogonccjagaaDoorRows
import GoSem.ClaimSeven
namespace Go.Proofs.YtoigogonccjagaaDoor
namespace Rows

/-- THE TIED CARD OF 'thimblelaw16.JournalNobody'. -/
def journalNobodyCard : Claim7 := { stood := { row := journalNobodyRow, standIns := [], harness := (true, "32598e01dafd053d9bfe036bd30eac6883557fd373cc71293015a8c3ce5382fe"), looks := true }, kinds := [], alts := [], laidByText := true, laidKinds := [.handle], laidTests := true, laidLooks := .later }
def JournalNobodyCardSaid : Prop := Claim7.holds Tryd.pinned (.plain (OpenSpec.ofChange journalNobodySpec)) journalNobodyCard

/-- THE TIED CARD OF 'thimblelaw16.JournalSums'. -/
def journalSumsCard : Claim7 := { stood := { row := journalSumsRow, standIns := [], harness := (true, "32598e01dafd053d9bfe036bd30eac6883557fd373cc71293015a8c3ce5382fe"), looks := true }, kinds := [], alts := [], laidByText := true, laidKinds := [.handle], laidTests := true, laidLooks := .later }
def JournalSumsCardSaid : Prop := Claim7.holds Tryd.pinned (.plain (OpenSpec.ofChange journalSumsSpec)) journalSumsCard

/-- THE TIED CARD OF 'thimblelaw16.JournalGroups'. -/
def journalGroupsCard : Claim7 := { stood := { row := journalGroupsRow, standIns := [], harness := (true, "32598e01dafd053d9bfe036bd30eac6883557fd373cc71293015a8c3ce5382fe"), looks := true }, kinds := [], alts := [], laidByText := true, laidKinds := [.handle], laidTests := true, laidLooks := .later }
def JournalGroupsCardSaid : Prop := Claim7.holds Tryd.pinned (.plain (OpenSpec.ofChange journalGroupsSpec)) journalGroupsCard

/-- THE TIED CARD OF 'thimblelaw16.JournalEpochs'. -/
def journalEpochsCard : Claim7 := { stood := { row := journalEpochsRow, standIns := [], harness := (true, "32598e01dafd053d9bfe036bd30eac6883557fd373cc71293015a8c3ce5382fe"), looks := true }, kinds := [], alts := [], laidByText := true, laidKinds := [.handle], laidTests := true, laidLooks := .later }
def JournalEpochsCardSaid : Prop := Claim7.holds Tryd.pinned (.plain (OpenSpec.ofChange journalEpochsSpec)) journalEpochsCard

/-- THE TIED CARD OF 'thimblelaw16.JournalLasts'. -/
def journalLastsCard : Claim7 := { stood := { row := journalLastsRow, standIns := [], harness := (true, "32598e01dafd053d9bfe036bd30eac6883557fd373cc71293015a8c3ce5382fe"), looks := true }, kinds := [], alts := [], laidByText := true, laidKinds := [.handle], laidTests := true, laidLooks := .later }
def JournalLastsCardSaid : Prop := Claim7.holds Tryd.pinned (.plain (OpenSpec.ofChange journalLastsSpec)) journalLastsCard

/-- THE SECOND FORM's CARD OF 'thimblelaw16.JournalNobody'. -/
def journalNobodyUptoCard : Claim7 := { stood := { row := journalNobodyUptoRow, standIns := [], harness := (true, "32598e01dafd053d9bfe036bd30eac6883557fd373cc71293015a8c3ce5382fe"), looks := true }, kinds := [], alts := [], laidByText := true, laidKinds := [.handle], laidTests := true, laidLooks := .later }
def JournalNobodyUptoCardSaid : Prop := Claim7.holds Tryd.pinned (.plain (OpenSpec.upto journalNobodySpec)) journalNobodyUptoCard

/-- THE SECOND FORM's CARD OF 'thimblelaw16.JournalSums'. -/
def journalSumsUptoCard : Claim7 := { stood := { row := journalSumsUptoRow, standIns := [], harness := (true, "32598e01dafd053d9bfe036bd30eac6883557fd373cc71293015a8c3ce5382fe"), looks := true }, kinds := [], alts := [], laidByText := true, laidKinds := [.handle], laidTests := true, laidLooks := .later }
def JournalSumsUptoCardSaid : Prop := Claim7.holds Tryd.pinned (.plain (OpenSpec.upto journalSumsSpec)) journalSumsUptoCard

/-- THE SECOND FORM's CARD OF 'thimblelaw16.JournalGroups'. -/
def journalGroupsUptoCard : Claim7 := { stood := { row := journalGroupsUptoRow, standIns := [], harness := (true, "32598e01dafd053d9bfe036bd30eac6883557fd373cc71293015a8c3ce5382fe"), looks := true }, kinds := [], alts := [], laidByText := true, laidKinds := [.handle], laidTests := true, laidLooks := .later }
def JournalGroupsUptoCardSaid : Prop := Claim7.holds Tryd.pinned (.plain (OpenSpec.upto journalGroupsSpec)) journalGroupsUptoCard

/-- THE SECOND FORM's CARD OF 'thimblelaw16.JournalEpochs'. -/
def journalEpochsUptoCard : Claim7 := { stood := { row := journalEpochsUptoRow, standIns := [], harness := (true, "32598e01dafd053d9bfe036bd30eac6883557fd373cc71293015a8c3ce5382fe"), looks := true }, kinds := [], alts := [], laidByText := true, laidKinds := [.handle], laidTests := true, laidLooks := .later }
def JournalEpochsUptoCardSaid : Prop := Claim7.holds Tryd.pinned (.plain (OpenSpec.upto journalEpochsSpec)) journalEpochsUptoCard

/-- THE SECOND FORM's CARD OF 'thimblelaw16.JournalLasts'. -/
def journalLastsUptoCard : Claim7 := { stood := { row := journalLastsUptoRow, standIns := [], harness := (true, "32598e01dafd053d9bfe036bd30eac6883557fd373cc71293015a8c3ce5382fe"), looks := true }, kinds := [], alts := [], laidByText := true, laidKinds := [.handle], laidTests := true, laidLooks := .later }
def JournalLastsUptoCardSaid : Prop := Claim7.holds Tryd.pinned (.plain (OpenSpec.upto journalLastsSpec)) journalLastsUptoCard
end Rows
end Go.Proofs.YtoigogonccjagaaDoor
