/-
  DERIVED. GIVEN WITH THE SEED: THE CARDS: each row of YtmoodinalncplaaDoorRows.lean that lists a variable, with what it lists TIED to the program's text (the seventh form; the later family's looks); each row that meets fmt, with fmt's text TOLD by the authors' own Lean function (tested against real Go, not proved from fmt's source: count such statements apart). THE CARD IS WHAT COUNTS. Prove the row's statement (the work); the ties are given (YtmoodinalncplaaDoorTie.lean); close each card by the builder's one call (the guide's Derived/Test/ToyasCard.lean, 'card_holds'). Laid BY PROGRAM, IN A SANDBOX (cutbox-door.mjs). By AI agents, Wed Nov 11 2026. No macro, syntax, notation, axiom, sorry.
-/
import Derived.Test.YtmoodinalncplaaDoorRows
import GoSem.ClaimSeven
namespace Go.Proofs.YtmoodinalncplaaDoor
namespace Rows

/-- THE TIED CARD OF 'millwrightkeep.SpanText'. -/
def spanTextCard : Claim7 := { stood := { row := spanTextRow, standIns := [], harness := (true, "fcd00d30b38932f09429cd78e3a18823e8b0c21e7293e1750c443cb4e7f60861"), looks := true }, kinds := [], alts := [], laidByText := true, laidKinds := [.data, .data, .data, .sentinel, .sentinel], laidTests := true, laidLooks := .later }
def SpanTextCardSaid : Prop := Claim7.holds Tryd.pinned (.plain (OpenSpec.ofChange spanTextSpec)) spanTextCard

/-- THE TIED CARD OF 'millwrightkeep.LogLast'. -/
def logLastCard : Claim7 := { stood := { row := logLastRow, standIns := [], harness := (true, "fcd00d30b38932f09429cd78e3a18823e8b0c21e7293e1750c443cb4e7f60861"), looks := true }, kinds := [], alts := [], laidByText := true, laidKinds := [.data, .data, .data], laidTests := true, laidLooks := .later }
def LogLastCardSaid : Prop := Claim7.holds Tryd.pinned (.plain (OpenSpec.ofChange logLastSpec)) logLastCard

/-- THE TIED CARD OF 'millwrightkeep.LogWrong'. -/
def logWrongCard : Claim7 := { stood := { row := logWrongRow, standIns := [], harness := (true, "fcd00d30b38932f09429cd78e3a18823e8b0c21e7293e1750c443cb4e7f60861"), looks := true }, kinds := [], alts := [], laidByText := true, laidKinds := [.data, .data, .data, .data, .sentinel, .sentinel, .pinned], laidTests := true, laidLooks := .later }
def LogWrongCardSaid : Prop := Claim7.holds Tryd.pinned (.plain (OpenSpec.ofChange logWrongSpec)) logWrongCard

/-- THE TIED CARD OF 'millwrightkeep.LogBack'. -/
def logBackCard : Claim7 := { stood := { row := logBackRow, standIns := [], harness := (true, "fcd00d30b38932f09429cd78e3a18823e8b0c21e7293e1750c443cb4e7f60861"), looks := true }, kinds := [], alts := [], laidByText := true, laidKinds := [.data, .data, .data, .data, .sentinel, .sentinel, .pinned], laidTests := true, laidLooks := .later }
def LogBackCardSaid : Prop := Claim7.holds Tryd.pinned (.plain (OpenSpec.ofChange logBackSpec)) logBackCard

/-- THE SECOND FORM's CARD OF 'millwrightkeep.SpanText'. -/
def spanTextUptoCard : Claim7 := { stood := { row := spanTextUptoRow, standIns := [], harness := (true, "fcd00d30b38932f09429cd78e3a18823e8b0c21e7293e1750c443cb4e7f60861"), looks := true }, kinds := [], alts := [], laidByText := true, laidKinds := [.data, .data, .data, .sentinel, .sentinel], laidTests := true, laidLooks := .later }
def SpanTextUptoCardSaid : Prop := Claim7.holds Tryd.pinned (.plain (OpenSpec.upto spanTextSpec)) spanTextUptoCard

/-- THE SECOND FORM's CARD OF 'millwrightkeep.LogLast'. -/
def logLastUptoCard : Claim7 := { stood := { row := logLastUptoRow, standIns := [], harness := (true, "fcd00d30b38932f09429cd78e3a18823e8b0c21e7293e1750c443cb4e7f60861"), looks := true }, kinds := [], alts := [], laidByText := true, laidKinds := [.data, .data, .data], laidTests := true, laidLooks := .later }
def LogLastUptoCardSaid : Prop := Claim7.holds Tryd.pinned (.plain (OpenSpec.upto logLastSpec)) logLastUptoCard

/-- THE SECOND FORM's CARD OF 'millwrightkeep.LogWrong'. -/
def logWrongUptoCard : Claim7 := { stood := { row := logWrongUptoRow, standIns := [], harness := (true, "fcd00d30b38932f09429cd78e3a18823e8b0c21e7293e1750c443cb4e7f60861"), looks := true }, kinds := [], alts := [], laidByText := true, laidKinds := [.data, .data, .data, .data, .sentinel, .sentinel, .pinned], laidTests := true, laidLooks := .later }
def LogWrongUptoCardSaid : Prop := Claim7.holds Tryd.pinned (.plain (OpenSpec.upto logWrongSpec)) logWrongUptoCard

/-- THE SECOND FORM's CARD OF 'millwrightkeep.LogBack'. -/
def logBackUptoCard : Claim7 := { stood := { row := logBackUptoRow, standIns := [], harness := (true, "fcd00d30b38932f09429cd78e3a18823e8b0c21e7293e1750c443cb4e7f60861"), looks := true }, kinds := [], alts := [], laidByText := true, laidKinds := [.data, .data, .data, .data, .sentinel, .sentinel, .pinned], laidTests := true, laidLooks := .later }
def LogBackUptoCardSaid : Prop := Claim7.holds Tryd.pinned (.plain (OpenSpec.upto logBackSpec)) logBackUptoCard
end Rows
end Go.Proofs.YtmoodinalncplaaDoor
