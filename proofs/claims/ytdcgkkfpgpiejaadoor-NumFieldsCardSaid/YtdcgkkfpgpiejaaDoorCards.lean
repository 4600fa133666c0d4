/-
  DERIVED. GIVEN WITH THE SEED: THE CARDS: each row of YtdcgkkfpgpiejaaDoorRows.lean that lists a variable, with what it lists TIED to the program's text (the seventh form; the later family's looks); each row that meets fmt, with fmt's text TOLD by the authors' own Lean function (tested against real Go, not proved from fmt's source: count such statements apart). THE CARD IS WHAT COUNTS. Prove the row's statement (the work); the ties are given (YtdcgkkfpgpiejaaDoorTie.lean); close each card by the builder's one call (the guide's Derived/Test/ToyasCard.lean, 'card_holds'). Laid BY PROGRAM, IN A SANDBOX (cutbox-door.mjs). By AI agents, Wed Nov 11 2026. No macro, syntax, notation, axiom, sorry.
-/
import Derived.Test.YtdcgkkfpgpiejaaDoorRows
import GoSem.ClaimSeven
namespace Go.Proofs.YtdcgkkfpgpiejaaDoor
namespace Rows

/-- THE TIED CARD OF 'pleacherlaw03.NumOrders'. -/
def numOrdersCard : Claim7 := { stood := { row := numOrdersRow, standIns := [], harness := (true, "39eb42656d8f830ebcb9cceb4f58b86f838393cdf4233b8aa3f00f78741b1270"), looks := true }, kinds := [], alts := [], laidByText := true, laidKinds := [.sentinel, .sentinel], laidTests := true, laidLooks := .later }
def NumOrdersCardSaid : Prop := Claim7.holds Tryd.pinned (.plain (OpenSpec.ofChange numOrdersSpec)) numOrdersCard

/-- THE TIED CARD OF 'pleacherlaw03.NumSums'. -/
def numSumsCard : Claim7 := { stood := { row := numSumsRow, standIns := [], harness := (true, "39eb42656d8f830ebcb9cceb4f58b86f838393cdf4233b8aa3f00f78741b1270"), looks := true }, kinds := [], alts := [], laidByText := true, laidKinds := [.sentinel, .sentinel], laidTests := true, laidLooks := .later }
def NumSumsCardSaid : Prop := Claim7.holds Tryd.pinned (.plain (OpenSpec.ofChange numSumsSpec)) numSumsCard

/-- THE TIED CARD OF 'pleacherlaw03.NumDigits'. -/
def numDigitsCard : Claim7 := { stood := { row := numDigitsRow, standIns := [], harness := (true, "39eb42656d8f830ebcb9cceb4f58b86f838393cdf4233b8aa3f00f78741b1270"), looks := true }, kinds := [], alts := [], laidByText := true, laidKinds := [.sentinel, .sentinel], laidTests := true, laidLooks := .later }
def NumDigitsCardSaid : Prop := Claim7.holds Tryd.pinned (.plain (OpenSpec.ofChange numDigitsSpec)) numDigitsCard

/-- THE TIED CARD OF 'pleacherlaw03.NumFields'. -/
def numFieldsCard : Claim7 := { stood := { row := numFieldsRow, standIns := [], harness := (true, "39eb42656d8f830ebcb9cceb4f58b86f838393cdf4233b8aa3f00f78741b1270"), looks := true }, kinds := [], alts := [], laidByText := true, laidKinds := [.sentinel, .sentinel], laidTests := true, laidLooks := .later }
def NumFieldsCardSaid : Prop := Claim7.holds Tryd.pinned (.plain (OpenSpec.ofChange numFieldsSpec)) numFieldsCard

/-- THE TIED CARD OF 'pleacherlaw03.NumWidths'. -/
def numWidthsCard : Claim7 := { stood := { row := numWidthsRow, standIns := [], harness := (true, "39eb42656d8f830ebcb9cceb4f58b86f838393cdf4233b8aa3f00f78741b1270"), looks := true }, kinds := [], alts := [], laidByText := true, laidKinds := [.sentinel, .sentinel], laidTests := true, laidLooks := .later }
def NumWidthsCardSaid : Prop := Claim7.holds Tryd.pinned (.plain (OpenSpec.ofChange numWidthsSpec)) numWidthsCard

/-- THE TIED CARD OF 'pleacherlaw03.NumShort'. -/
def numShortCard : Claim7 := { stood := { row := numShortRow, standIns := [], harness := (true, "39eb42656d8f830ebcb9cceb4f58b86f838393cdf4233b8aa3f00f78741b1270"), looks := true }, kinds := [], alts := [], laidByText := true, laidKinds := [.sentinel, .sentinel], laidTests := true, laidLooks := .later }
def NumShortCardSaid : Prop := Claim7.holds Tryd.pinned (.plain (OpenSpec.ofChange numShortSpec)) numShortCard

/-- THE TIED CARD OF 'pleacherlaw03.NumCodes'. -/
def numCodesCard : Claim7 := { stood := { row := numCodesRow, standIns := [], harness := (true, "39eb42656d8f830ebcb9cceb4f58b86f838393cdf4233b8aa3f00f78741b1270"), looks := true }, kinds := [], alts := [], laidByText := true, laidKinds := [.sentinel, .sentinel], laidTests := true, laidLooks := .later }
def NumCodesCardSaid : Prop := Claim7.holds Tryd.pinned (.plain (OpenSpec.ofChange numCodesSpec)) numCodesCard

/-- THE TIED CARD OF 'pleacherlaw03.NumBack'. -/
def numBackCard : Claim7 := { stood := { row := numBackRow, standIns := [], harness := (true, "39eb42656d8f830ebcb9cceb4f58b86f838393cdf4233b8aa3f00f78741b1270"), looks := true }, kinds := [], alts := [], laidByText := true, laidKinds := [.sentinel, .sentinel], laidTests := true, laidLooks := .later }
def NumBackCardSaid : Prop := Claim7.holds Tryd.pinned (.plain (OpenSpec.ofChange numBackSpec)) numBackCard

/-- THE SECOND FORM's CARD OF 'pleacherlaw03.NumOrders'. -/
def numOrdersUptoCard : Claim7 := { stood := { row := numOrdersUptoRow, standIns := [], harness := (true, "39eb42656d8f830ebcb9cceb4f58b86f838393cdf4233b8aa3f00f78741b1270"), looks := true }, kinds := [], alts := [], laidByText := true, laidKinds := [.sentinel, .sentinel], laidTests := true, laidLooks := .later }
def NumOrdersUptoCardSaid : Prop := Claim7.holds Tryd.pinned (.plain (OpenSpec.upto numOrdersSpec)) numOrdersUptoCard

/-- THE SECOND FORM's CARD OF 'pleacherlaw03.NumSums'. -/
def numSumsUptoCard : Claim7 := { stood := { row := numSumsUptoRow, standIns := [], harness := (true, "39eb42656d8f830ebcb9cceb4f58b86f838393cdf4233b8aa3f00f78741b1270"), looks := true }, kinds := [], alts := [], laidByText := true, laidKinds := [.sentinel, .sentinel], laidTests := true, laidLooks := .later }
def NumSumsUptoCardSaid : Prop := Claim7.holds Tryd.pinned (.plain (OpenSpec.upto numSumsSpec)) numSumsUptoCard

/-- THE SECOND FORM's CARD OF 'pleacherlaw03.NumDigits'. -/
def numDigitsUptoCard : Claim7 := { stood := { row := numDigitsUptoRow, standIns := [], harness := (true, "39eb42656d8f830ebcb9cceb4f58b86f838393cdf4233b8aa3f00f78741b1270"), looks := true }, kinds := [], alts := [], laidByText := true, laidKinds := [.sentinel, .sentinel], laidTests := true, laidLooks := .later }
def NumDigitsUptoCardSaid : Prop := Claim7.holds Tryd.pinned (.plain (OpenSpec.upto numDigitsSpec)) numDigitsUptoCard

/-- THE SECOND FORM's CARD OF 'pleacherlaw03.NumFields'. -/
def numFieldsUptoCard : Claim7 := { stood := { row := numFieldsUptoRow, standIns := [], harness := (true, "39eb42656d8f830ebcb9cceb4f58b86f838393cdf4233b8aa3f00f78741b1270"), looks := true }, kinds := [], alts := [], laidByText := true, laidKinds := [.sentinel, .sentinel], laidTests := true, laidLooks := .later }
def NumFieldsUptoCardSaid : Prop := Claim7.holds Tryd.pinned (.plain (OpenSpec.upto numFieldsSpec)) numFieldsUptoCard

/-- THE SECOND FORM's CARD OF 'pleacherlaw03.NumWidths'. -/
def numWidthsUptoCard : Claim7 := { stood := { row := numWidthsUptoRow, standIns := [], harness := (true, "39eb42656d8f830ebcb9cceb4f58b86f838393cdf4233b8aa3f00f78741b1270"), looks := true }, kinds := [], alts := [], laidByText := true, laidKinds := [.sentinel, .sentinel], laidTests := true, laidLooks := .later }
def NumWidthsUptoCardSaid : Prop := Claim7.holds Tryd.pinned (.plain (OpenSpec.upto numWidthsSpec)) numWidthsUptoCard

/-- THE SECOND FORM's CARD OF 'pleacherlaw03.NumShort'. -/
def numShortUptoCard : Claim7 := { stood := { row := numShortUptoRow, standIns := [], harness := (true, "39eb42656d8f830ebcb9cceb4f58b86f838393cdf4233b8aa3f00f78741b1270"), looks := true }, kinds := [], alts := [], laidByText := true, laidKinds := [.sentinel, .sentinel], laidTests := true, laidLooks := .later }
def NumShortUptoCardSaid : Prop := Claim7.holds Tryd.pinned (.plain (OpenSpec.upto numShortSpec)) numShortUptoCard

/-- THE SECOND FORM's CARD OF 'pleacherlaw03.NumCodes'. -/
def numCodesUptoCard : Claim7 := { stood := { row := numCodesUptoRow, standIns := [], harness := (true, "39eb42656d8f830ebcb9cceb4f58b86f838393cdf4233b8aa3f00f78741b1270"), looks := true }, kinds := [], alts := [], laidByText := true, laidKinds := [.sentinel, .sentinel], laidTests := true, laidLooks := .later }
def NumCodesUptoCardSaid : Prop := Claim7.holds Tryd.pinned (.plain (OpenSpec.upto numCodesSpec)) numCodesUptoCard

/-- THE SECOND FORM's CARD OF 'pleacherlaw03.NumBack'. -/
def numBackUptoCard : Claim7 := { stood := { row := numBackUptoRow, standIns := [], harness := (true, "39eb42656d8f830ebcb9cceb4f58b86f838393cdf4233b8aa3f00f78741b1270"), looks := true }, kinds := [], alts := [], laidByText := true, laidKinds := [.sentinel, .sentinel], laidTests := true, laidLooks := .later }
def NumBackUptoCardSaid : Prop := Claim7.holds Tryd.pinned (.plain (OpenSpec.upto numBackSpec)) numBackUptoCard
end Rows
end Go.Proofs.YtdcgkkfpgpiejaaDoor
