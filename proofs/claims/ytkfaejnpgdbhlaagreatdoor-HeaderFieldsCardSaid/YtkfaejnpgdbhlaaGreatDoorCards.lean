/-
  DERIVED. GIVEN WITH THE SEED: THE CARDS: each row of YtkfaejnpgdbhlaaGreatDoorRows.lean that lists a variable, with what it lists TIED to the program's text (the seventh form; the later family's looks); each row that meets fmt, with fmt's text TOLD by the authors' own Lean function (tested against real Go, not proved from fmt's source: count such statements apart). THE CARD IS WHAT COUNTS. Prove the row's statement (the work); the ties are given (YtkfaejnpgdbhlaaGreatDoorTie.lean); close each card by the builder's one call (the guide's Derived/Test/ToyasCard.lean, 'card_holds'). Laid BY PROGRAM, IN A SANDBOX (cutbox-door.mjs). By AI agents, Wed Nov 11 2026. No macro, syntax, notation, axiom, sorry.
-/
import Derived.Test.YtkfaejnpgdbhlaaGreatDoorRows
import GoSem.ClaimSeven
namespace Go.Proofs.YtkfaejnpgdbhlaaGreatDoor
namespace Rows

/-- THE TIED CARD OF 'pleacherlaw08.HeaderGets'. -/
def headerGetsCard : Claim7 := { stood := { row := headerGetsRow, standIns := [], harness := (true, "22d7b3230da7de18ca27f6363ef282fe6fad7c94818d1252fd0d2b90fa5ca1af"), looks := true }, kinds := [], alts := [], laidByText := true, laidKinds := [.data, .handle, .sentinel, .sentinel, .sentinel, .pinned], laidTests := true, laidLooks := .later }
def HeaderGetsCardSaid : Prop := Claim7.holds Tryz.pinned (.plain (OpenSpec.ofChange headerGetsSpec)) headerGetsCard

/-- THE TIED CARD OF 'pleacherlaw08.HeaderBack'. -/
def headerBackCard : Claim7 := { stood := { row := headerBackRow, standIns := [], harness := (true, "22d7b3230da7de18ca27f6363ef282fe6fad7c94818d1252fd0d2b90fa5ca1af"), looks := true }, kinds := [], alts := [], laidByText := true, laidKinds := [.data, .handle, .sentinel, .sentinel, .sentinel, .pinned], laidTests := true, laidLooks := .later }
def HeaderBackCardSaid : Prop := Claim7.holds Tryz.pinned (.plain (OpenSpec.ofChange headerBackSpec)) headerBackCard

/-- THE TIED CARD OF 'pleacherlaw08.HeaderFinds'. -/
def headerFindsCard : Claim7 := { stood := { row := headerFindsRow, standIns := [], harness := (true, "22d7b3230da7de18ca27f6363ef282fe6fad7c94818d1252fd0d2b90fa5ca1af"), looks := true }, kinds := [], alts := [], laidByText := true, laidKinds := [.data, .handle, .sentinel, .sentinel, .sentinel, .pinned], laidTests := true, laidLooks := .later }
def HeaderFindsCardSaid : Prop := Claim7.holds Tryz.pinned (.plain (OpenSpec.ofChange headerFindsSpec)) headerFindsCard

/-- THE TIED CARD OF 'pleacherlaw08.HeaderPads'. -/
def headerPadsCard : Claim7 := { stood := { row := headerPadsRow, standIns := [], harness := (true, "22d7b3230da7de18ca27f6363ef282fe6fad7c94818d1252fd0d2b90fa5ca1af"), looks := true }, kinds := [], alts := [], laidByText := true, laidKinds := [.data, .handle, .sentinel, .sentinel, .sentinel, .pinned], laidTests := true, laidLooks := .later }
def HeaderPadsCardSaid : Prop := Claim7.holds Tryz.pinned (.plain (OpenSpec.ofChange headerPadsSpec)) headerPadsCard

/-- THE TIED CARD OF 'pleacherlaw08.HeaderSizes'. -/
def headerSizesCard : Claim7 := { stood := { row := headerSizesRow, standIns := [], harness := (true, "22d7b3230da7de18ca27f6363ef282fe6fad7c94818d1252fd0d2b90fa5ca1af"), looks := true }, kinds := [], alts := [], laidByText := true, laidKinds := [.data, .handle, .sentinel, .sentinel, .sentinel, .pinned], laidTests := true, laidLooks := .later }
def HeaderSizesCardSaid : Prop := Claim7.holds Tryz.pinned (.plain (OpenSpec.ofChange headerSizesSpec)) headerSizesCard

/-- THE TIED CARD OF 'pleacherlaw08.HeaderShort'. -/
def headerShortCard : Claim7 := { stood := { row := headerShortRow, standIns := [], harness := (true, "22d7b3230da7de18ca27f6363ef282fe6fad7c94818d1252fd0d2b90fa5ca1af"), looks := true }, kinds := [], alts := [], laidByText := true, laidKinds := [.data, .handle, .sentinel, .sentinel, .sentinel, .pinned], laidTests := true, laidLooks := .later }
def HeaderShortCardSaid : Prop := Claim7.holds Tryz.pinned (.plain (OpenSpec.ofChange headerShortSpec)) headerShortCard

/-- THE TIED CARD OF 'pleacherlaw08.HeaderPuts'. -/
def headerPutsCard : Claim7 := { stood := { row := headerPutsRow, standIns := [], harness := (true, "22d7b3230da7de18ca27f6363ef282fe6fad7c94818d1252fd0d2b90fa5ca1af"), looks := true }, kinds := [], alts := [], laidByText := true, laidKinds := [.data, .handle, .sentinel, .sentinel, .sentinel, .pinned], laidTests := true, laidLooks := .later }
def HeaderPutsCardSaid : Prop := Claim7.holds Tryz.pinned (.plain (OpenSpec.ofChange headerPutsSpec)) headerPutsCard

/-- THE TIED CARD OF 'pleacherlaw08.HeaderFields'. -/
def headerFieldsCard : Claim7 := { stood := { row := headerFieldsRow, standIns := [], harness := (true, "22d7b3230da7de18ca27f6363ef282fe6fad7c94818d1252fd0d2b90fa5ca1af"), looks := true }, kinds := [], alts := [], laidByText := true, laidKinds := [.data, .handle, .sentinel, .sentinel, .sentinel, .pinned], laidTests := true, laidLooks := .later }
def HeaderFieldsCardSaid : Prop := Claim7.holds Tryz.pinned (.plain (OpenSpec.ofChange headerFieldsSpec)) headerFieldsCard

/-- THE SECOND FORM's CARD OF 'pleacherlaw08.HeaderGets'. -/
def headerGetsUptoCard : Claim7 := { stood := { row := headerGetsUptoRow, standIns := [], harness := (true, "22d7b3230da7de18ca27f6363ef282fe6fad7c94818d1252fd0d2b90fa5ca1af"), looks := true }, kinds := [], alts := [], laidByText := true, laidKinds := [.data, .handle, .sentinel, .sentinel, .sentinel, .pinned], laidTests := true, laidLooks := .later }
def HeaderGetsUptoCardSaid : Prop := Claim7.holds Tryz.pinned (.plain (OpenSpec.upto headerGetsSpec)) headerGetsUptoCard

/-- THE SECOND FORM's CARD OF 'pleacherlaw08.HeaderBack'. -/
def headerBackUptoCard : Claim7 := { stood := { row := headerBackUptoRow, standIns := [], harness := (true, "22d7b3230da7de18ca27f6363ef282fe6fad7c94818d1252fd0d2b90fa5ca1af"), looks := true }, kinds := [], alts := [], laidByText := true, laidKinds := [.data, .handle, .sentinel, .sentinel, .sentinel, .pinned], laidTests := true, laidLooks := .later }
def HeaderBackUptoCardSaid : Prop := Claim7.holds Tryz.pinned (.plain (OpenSpec.upto headerBackSpec)) headerBackUptoCard

/-- THE SECOND FORM's CARD OF 'pleacherlaw08.HeaderFinds'. -/
def headerFindsUptoCard : Claim7 := { stood := { row := headerFindsUptoRow, standIns := [], harness := (true, "22d7b3230da7de18ca27f6363ef282fe6fad7c94818d1252fd0d2b90fa5ca1af"), looks := true }, kinds := [], alts := [], laidByText := true, laidKinds := [.data, .handle, .sentinel, .sentinel, .sentinel, .pinned], laidTests := true, laidLooks := .later }
def HeaderFindsUptoCardSaid : Prop := Claim7.holds Tryz.pinned (.plain (OpenSpec.upto headerFindsSpec)) headerFindsUptoCard

/-- THE SECOND FORM's CARD OF 'pleacherlaw08.HeaderPads'. -/
def headerPadsUptoCard : Claim7 := { stood := { row := headerPadsUptoRow, standIns := [], harness := (true, "22d7b3230da7de18ca27f6363ef282fe6fad7c94818d1252fd0d2b90fa5ca1af"), looks := true }, kinds := [], alts := [], laidByText := true, laidKinds := [.data, .handle, .sentinel, .sentinel, .sentinel, .pinned], laidTests := true, laidLooks := .later }
def HeaderPadsUptoCardSaid : Prop := Claim7.holds Tryz.pinned (.plain (OpenSpec.upto headerPadsSpec)) headerPadsUptoCard

/-- THE SECOND FORM's CARD OF 'pleacherlaw08.HeaderSizes'. -/
def headerSizesUptoCard : Claim7 := { stood := { row := headerSizesUptoRow, standIns := [], harness := (true, "22d7b3230da7de18ca27f6363ef282fe6fad7c94818d1252fd0d2b90fa5ca1af"), looks := true }, kinds := [], alts := [], laidByText := true, laidKinds := [.data, .handle, .sentinel, .sentinel, .sentinel, .pinned], laidTests := true, laidLooks := .later }
def HeaderSizesUptoCardSaid : Prop := Claim7.holds Tryz.pinned (.plain (OpenSpec.upto headerSizesSpec)) headerSizesUptoCard

/-- THE SECOND FORM's CARD OF 'pleacherlaw08.HeaderShort'. -/
def headerShortUptoCard : Claim7 := { stood := { row := headerShortUptoRow, standIns := [], harness := (true, "22d7b3230da7de18ca27f6363ef282fe6fad7c94818d1252fd0d2b90fa5ca1af"), looks := true }, kinds := [], alts := [], laidByText := true, laidKinds := [.data, .handle, .sentinel, .sentinel, .sentinel, .pinned], laidTests := true, laidLooks := .later }
def HeaderShortUptoCardSaid : Prop := Claim7.holds Tryz.pinned (.plain (OpenSpec.upto headerShortSpec)) headerShortUptoCard

/-- THE SECOND FORM's CARD OF 'pleacherlaw08.HeaderPuts'. -/
def headerPutsUptoCard : Claim7 := { stood := { row := headerPutsUptoRow, standIns := [], harness := (true, "22d7b3230da7de18ca27f6363ef282fe6fad7c94818d1252fd0d2b90fa5ca1af"), looks := true }, kinds := [], alts := [], laidByText := true, laidKinds := [.data, .handle, .sentinel, .sentinel, .sentinel, .pinned], laidTests := true, laidLooks := .later }
def HeaderPutsUptoCardSaid : Prop := Claim7.holds Tryz.pinned (.plain (OpenSpec.upto headerPutsSpec)) headerPutsUptoCard

/-- THE SECOND FORM's CARD OF 'pleacherlaw08.HeaderFields'. -/
def headerFieldsUptoCard : Claim7 := { stood := { row := headerFieldsUptoRow, standIns := [], harness := (true, "22d7b3230da7de18ca27f6363ef282fe6fad7c94818d1252fd0d2b90fa5ca1af"), looks := true }, kinds := [], alts := [], laidByText := true, laidKinds := [.data, .handle, .sentinel, .sentinel, .sentinel, .pinned], laidTests := true, laidLooks := .later }
def HeaderFieldsUptoCardSaid : Prop := Claim7.holds Tryz.pinned (.plain (OpenSpec.upto headerFieldsSpec)) headerFieldsUptoCard
end Rows
end Go.Proofs.YtkfaejnpgdbhlaaGreatDoor
