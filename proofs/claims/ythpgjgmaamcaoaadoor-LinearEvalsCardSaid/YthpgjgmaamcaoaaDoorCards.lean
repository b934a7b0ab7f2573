/-
  DERIVED. GIVEN WITH THE SEED: THE CARDS: each row of YthpgjgmaamcaoaaDoorRows.lean that lists a variable, with what it lists TIED to the program's text (the seventh form; the later family's looks); each row that meets fmt, with fmt's text TOLD by the authors' own Lean function (tested against real Go, not proved from fmt's source: count such statements apart). THE CARD IS WHAT COUNTS. Prove the row's statement (the work); the ties are given (YthpgjgmaamcaoaaDoorTie.lean); close each card by the builder's one call (the guide's Derived/Test/ToyasCard.lean, 'card_holds'). Laid BY PROGRAM, IN A SANDBOX (cutbox-door.mjs). By AI agents, Wed Nov 11 2026. No macro, syntax, notation, axiom, sorry.
-/
import Derived.Test.YthpgjgmaamcaoaaDoorRows
import GoSem.ClaimSeven
namespace Go.Proofs.YthpgjgmaamcaoaaDoor
namespace Rows

/-- THE TIED CARD OF 'whetstonelaw11.LinearSubsts'. -/
def linearSubstsCard : Claim7 := { stood := { row := linearSubstsRow, standIns := [], harness := (true, "0576c36ee9911657c73a193041351b67b64ee69f9af769631e8b28ae7ffba115"), looks := false }, kinds := [], alts := [], laidByText := true, laidKinds := [.data, .data, .data], laidTests := true, laidLooks := .later }
def LinearSubstsCardSaid : Prop := Claim7.holds Tryd.pinned (.plain (OpenSpec.ofChange linearSubstsSpec)) linearSubstsCard

/-- THE TIED CARD OF 'whetstonelaw11.LinearKeeps'. -/
def linearKeepsCard : Claim7 := { stood := { row := linearKeepsRow, standIns := [], harness := (true, "0576c36ee9911657c73a193041351b67b64ee69f9af769631e8b28ae7ffba115"), looks := false }, kinds := [], alts := [], laidByText := true, laidKinds := [.data, .data, .data], laidTests := true, laidLooks := .later }
def LinearKeepsCardSaid : Prop := Claim7.holds Tryd.pinned (.plain (OpenSpec.ofChange linearKeepsSpec)) linearKeepsCard

/-- THE TIED CARD OF 'whetstonelaw11.LinearSums'. -/
def linearSumsCard : Claim7 := { stood := { row := linearSumsRow, standIns := [], harness := (true, "0576c36ee9911657c73a193041351b67b64ee69f9af769631e8b28ae7ffba115"), looks := false }, kinds := [], alts := [], laidByText := true, laidKinds := [.data, .data, .data], laidTests := true, laidLooks := .later }
def LinearSumsCardSaid : Prop := Claim7.holds Tryd.pinned (.plain (OpenSpec.ofChange linearSumsSpec)) linearSumsCard

/-- THE TIED CARD OF 'whetstonelaw11.LinearTexts'. -/
def linearTextsCard : Claim7 := { stood := { row := linearTextsRow, standIns := [], harness := (true, "0576c36ee9911657c73a193041351b67b64ee69f9af769631e8b28ae7ffba115"), looks := false }, kinds := [], alts := [], laidByText := true, laidKinds := [.data, .data, .data], laidTests := true, laidLooks := .later }
def LinearTextsCardSaid : Prop := Claim7.holds Tryd.pinned (.plain (OpenSpec.ofChange linearTextsSpec)) linearTextsCard

/-- THE TIED CARD OF 'whetstonelaw11.LinearEvals'. -/
def linearEvalsCard : Claim7 := { stood := { row := linearEvalsRow, standIns := [], harness := (true, "0576c36ee9911657c73a193041351b67b64ee69f9af769631e8b28ae7ffba115"), looks := false }, kinds := [], alts := [], laidByText := true, laidKinds := [.data, .data, .data], laidTests := true, laidLooks := .later }
def LinearEvalsCardSaid : Prop := Claim7.holds Tryd.pinned (.plain (OpenSpec.ofChange linearEvalsSpec)) linearEvalsCard

/-- THE TIED CARD OF 'whetstonelaw11.LinearValues'. -/
def linearValuesCard : Claim7 := { stood := { row := linearValuesRow, standIns := [], harness := (true, "0576c36ee9911657c73a193041351b67b64ee69f9af769631e8b28ae7ffba115"), looks := false }, kinds := [], alts := [], laidByText := true, laidKinds := [.data, .data, .data], laidTests := true, laidLooks := .later }
def LinearValuesCardSaid : Prop := Claim7.holds Tryd.pinned (.plain (OpenSpec.ofChange linearValuesSpec)) linearValuesCard

/-- THE SECOND FORM's CARD OF 'whetstonelaw11.LinearSubsts'. -/
def linearSubstsUptoCard : Claim7 := { stood := { row := linearSubstsUptoRow, standIns := [], harness := (true, "0576c36ee9911657c73a193041351b67b64ee69f9af769631e8b28ae7ffba115"), looks := false }, kinds := [], alts := [], laidByText := true, laidKinds := [.data, .data, .data], laidTests := true, laidLooks := .later }
def LinearSubstsUptoCardSaid : Prop := Claim7.holds Tryd.pinned (.plain (OpenSpec.upto linearSubstsSpec)) linearSubstsUptoCard

/-- THE SECOND FORM's CARD OF 'whetstonelaw11.LinearKeeps'. -/
def linearKeepsUptoCard : Claim7 := { stood := { row := linearKeepsUptoRow, standIns := [], harness := (true, "0576c36ee9911657c73a193041351b67b64ee69f9af769631e8b28ae7ffba115"), looks := false }, kinds := [], alts := [], laidByText := true, laidKinds := [.data, .data, .data], laidTests := true, laidLooks := .later }
def LinearKeepsUptoCardSaid : Prop := Claim7.holds Tryd.pinned (.plain (OpenSpec.upto linearKeepsSpec)) linearKeepsUptoCard

/-- THE SECOND FORM's CARD OF 'whetstonelaw11.LinearSums'. -/
def linearSumsUptoCard : Claim7 := { stood := { row := linearSumsUptoRow, standIns := [], harness := (true, "0576c36ee9911657c73a193041351b67b64ee69f9af769631e8b28ae7ffba115"), looks := false }, kinds := [], alts := [], laidByText := true, laidKinds := [.data, .data, .data], laidTests := true, laidLooks := .later }
def LinearSumsUptoCardSaid : Prop := Claim7.holds Tryd.pinned (.plain (OpenSpec.upto linearSumsSpec)) linearSumsUptoCard

/-- THE SECOND FORM's CARD OF 'whetstonelaw11.LinearTexts'. -/
def linearTextsUptoCard : Claim7 := { stood := { row := linearTextsUptoRow, standIns := [], harness := (true, "0576c36ee9911657c73a193041351b67b64ee69f9af769631e8b28ae7ffba115"), looks := false }, kinds := [], alts := [], laidByText := true, laidKinds := [.data, .data, .data], laidTests := true, laidLooks := .later }
def LinearTextsUptoCardSaid : Prop := Claim7.holds Tryd.pinned (.plain (OpenSpec.upto linearTextsSpec)) linearTextsUptoCard

/-- THE SECOND FORM's CARD OF 'whetstonelaw11.LinearEvals'. -/
def linearEvalsUptoCard : Claim7 := { stood := { row := linearEvalsUptoRow, standIns := [], harness := (true, "0576c36ee9911657c73a193041351b67b64ee69f9af769631e8b28ae7ffba115"), looks := false }, kinds := [], alts := [], laidByText := true, laidKinds := [.data, .data, .data], laidTests := true, laidLooks := .later }
def LinearEvalsUptoCardSaid : Prop := Claim7.holds Tryd.pinned (.plain (OpenSpec.upto linearEvalsSpec)) linearEvalsUptoCard

/-- THE SECOND FORM's CARD OF 'whetstonelaw11.LinearValues'. -/
def linearValuesUptoCard : Claim7 := { stood := { row := linearValuesUptoRow, standIns := [], harness := (true, "0576c36ee9911657c73a193041351b67b64ee69f9af769631e8b28ae7ffba115"), looks := false }, kinds := [], alts := [], laidByText := true, laidKinds := [.data, .data, .data], laidTests := true, laidLooks := .later }
def LinearValuesUptoCardSaid : Prop := Claim7.holds Tryd.pinned (.plain (OpenSpec.upto linearValuesSpec)) linearValuesUptoCard
end Rows
end Go.Proofs.YthpgjgmaamcaoaaDoor
