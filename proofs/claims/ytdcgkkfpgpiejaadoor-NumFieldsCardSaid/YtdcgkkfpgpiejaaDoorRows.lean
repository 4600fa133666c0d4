/-
  NARROWER THAN 'FOR EVERY INPUT', by the rows' own cells (each row's printed sentence says how): NumOrders: laid · NumSums: laid · NumDigits: laid · NumFields: laid · NumWidths: laid · NumShort: laid · NumCodes: laid · NumBack: laid.
  DERIVED. THE GIVEN ROWS OF THIS SEAT. 8 by the template 'for every input the law returns true; each argument reads behind the call as it read before'; 0 by the template 'total and deterministic' (their statements: YtdcgkkfpgpiejaaDoorTotals.lean).
  GIVEN WITH THE SEED: the statements are not yours to turn. If you find one false, say at which input.
  Laid BY PROGRAM, IN A SANDBOX (cutbox-rows.mjs): the forced cells as the released guide's own fill.sh prints them over the translation e479a8ffdc73514d… (all of the seat's roots in one cut). By AI agents, Wed Nov 11 2026. No macro, syntax, notation, axiom, sorry.
-/
import Derived.Test.YtdcgkkfpgpiejaaDoorChecked
import GoSem.Claim
import GoSem.ClaimJoined
import GoSem.ClaimMapViews
import Derived.JoinedTies
import Derived.KernelRfl
namespace Go.Proofs.YtdcgkkfpgpiejaaDoor
/- THE CELL 'sum', in the pinned program and in every row, IS THE sha256 OF THE DUMP (.gsa) THAT YtdcgkkfpgpiejaaDoorProg.lean LOADS. Nothing in Lean hashes anything: it is a label: what it is worth is what the hold of that sum in a sandbox is worth. -/
noncomputable def Tryd.pinned : Pinned := { name := "ytdcgkkfpgpiejaadoor", sum := "e479a8ffdc73514d96970178204d3077d53ad5f9f132439a397e5a522ac08330", checked := Tryd.checked }
namespace Rows
def none {H : Type} : Left H := { results := [], args := [] }

/- WHAT THE LISTED PACKAGE-LEVEL VARIABLES READ AS WHEN THE CALL BEGINS. Each datum BY PROGRAM (the guide's laid-datum.mjs) off the statement by which the dump's own 'gosem.cut.vars' lays the variable. In a bare row this is a premise. The card (YtdcgkkfpgpiejaaDoorCards.lean) ties it to the program's text. -/
def laid_pleacher_num_errBase {H : Type} : DataW H := .iface "*errors.errorString" (.ptr (.agg [.lit (.string [110, 111, 32, 98, 97, 115, 101])]))
def laid_pleacher_num_errNum {H : Type} : DataW H := .iface "*errors.errorString" (.ptr (.agg [.lit (.string [110, 111, 32, 110, 117, 109, 98, 101, 114])]))

/-- 'pleacherlaw03.NumOrders': WHATEVER THE INPUT: true; the input reads as it did. -/
def numOrdersSpec : ChangeSpec := { name := "numOrders", fn := fun _ => fun
  | [d1, d2, d3] => { results := [.lit (.bool true)], args := [d1, d2, d3] }
  | _ => none }
def numOrdersRow : OpenClaim := { program := "ytdcgkkfpgpiejaadoor", sum := "e479a8ffdc73514d96970178204d3077d53ad5f9f132439a397e5a522ac08330", func := "pleacher/pleacherlaw03.NumOrders", spec := "numOrders", inPlace := ["internal/reflectlite.TypeOf", "internal/abi.NoEscape", "internal/bytealg.MakeNoZero"], unfollowed := true, recurses := true, named := ["pleacher/num.errBase", "pleacher/num.errNum"], apart := false, laid := [("pleacher/num.errBase", laid_pleacher_num_errBase), ("pleacher/num.errNum", laid_pleacher_num_errNum)] }
def NumOrdersSaid : Prop := numOrdersRow.holds Tryd.pinned (OpenSpec.ofChange numOrdersSpec)

/-- ITS FALSE NEIGHBOUR: 'it returns false'. Refute it at one input. -/
def numOrdersWrong : ChangeSpec := { name := "numOrders", fn := fun _ => fun
  | [d1, d2, d3] => { results := [.lit (.bool false)], args := [d1, d2, d3] }
  | _ => none }
def NumOrdersWrongFalsely : Prop := numOrdersRow.holds Tryd.pinned (OpenSpec.ofChange numOrdersWrong)

/-- 'pleacherlaw03.NumSums': WHATEVER THE INPUT: true; the input reads as it did. -/
def numSumsSpec : ChangeSpec := { name := "numSums", fn := fun _ => fun
  | [d1, d2] => { results := [.lit (.bool true)], args := [d1, d2] }
  | _ => none }
def numSumsRow : OpenClaim := { program := "ytdcgkkfpgpiejaadoor", sum := "e479a8ffdc73514d96970178204d3077d53ad5f9f132439a397e5a522ac08330", func := "pleacher/pleacherlaw03.NumSums", spec := "numSums", inPlace := ["internal/reflectlite.TypeOf", "internal/abi.NoEscape", "internal/bytealg.MakeNoZero"], unfollowed := true, recurses := true, named := ["pleacher/num.errBase", "pleacher/num.errNum"], apart := false, laid := [("pleacher/num.errBase", laid_pleacher_num_errBase), ("pleacher/num.errNum", laid_pleacher_num_errNum)] }
def NumSumsSaid : Prop := numSumsRow.holds Tryd.pinned (OpenSpec.ofChange numSumsSpec)

/-- ITS FALSE NEIGHBOUR: 'it returns false'. Refute it at one input. -/
def numSumsWrong : ChangeSpec := { name := "numSums", fn := fun _ => fun
  | [d1, d2] => { results := [.lit (.bool false)], args := [d1, d2] }
  | _ => none }
def NumSumsWrongFalsely : Prop := numSumsRow.holds Tryd.pinned (OpenSpec.ofChange numSumsWrong)

/-- 'pleacherlaw03.NumDigits': WHATEVER THE INPUT: true; the input reads as it did. -/
def numDigitsSpec : ChangeSpec := { name := "numDigits", fn := fun _ => fun
  | [d1, d2, d3] => { results := [.lit (.bool true)], args := [d1, d2, d3] }
  | _ => none }
def numDigitsRow : OpenClaim := { program := "ytdcgkkfpgpiejaadoor", sum := "e479a8ffdc73514d96970178204d3077d53ad5f9f132439a397e5a522ac08330", func := "pleacher/pleacherlaw03.NumDigits", spec := "numDigits", inPlace := ["internal/reflectlite.TypeOf", "internal/abi.NoEscape", "internal/bytealg.MakeNoZero"], unfollowed := true, recurses := true, named := ["pleacher/num.errBase", "pleacher/num.errNum"], apart := false, laid := [("pleacher/num.errBase", laid_pleacher_num_errBase), ("pleacher/num.errNum", laid_pleacher_num_errNum)] }
def NumDigitsSaid : Prop := numDigitsRow.holds Tryd.pinned (OpenSpec.ofChange numDigitsSpec)

/-- ITS FALSE NEIGHBOUR: 'it returns false'. Refute it at one input. -/
def numDigitsWrong : ChangeSpec := { name := "numDigits", fn := fun _ => fun
  | [d1, d2, d3] => { results := [.lit (.bool false)], args := [d1, d2, d3] }
  | _ => none }
def NumDigitsWrongFalsely : Prop := numDigitsRow.holds Tryd.pinned (OpenSpec.ofChange numDigitsWrong)

/-- 'pleacherlaw03.NumFields': WHATEVER THE INPUT: true; the input reads as it did. -/
def numFieldsSpec : ChangeSpec := { name := "numFields", fn := fun _ => fun
  | [d1, d2, d3] => { results := [.lit (.bool true)], args := [d1, d2, d3] }
  | _ => none }
def numFieldsRow : OpenClaim := { program := "ytdcgkkfpgpiejaadoor", sum := "e479a8ffdc73514d96970178204d3077d53ad5f9f132439a397e5a522ac08330", func := "pleacher/pleacherlaw03.NumFields", spec := "numFields", inPlace := ["internal/reflectlite.TypeOf", "internal/abi.NoEscape", "internal/bytealg.MakeNoZero"], unfollowed := true, recurses := true, named := ["pleacher/num.errBase", "pleacher/num.errNum"], apart := false, laid := [("pleacher/num.errBase", laid_pleacher_num_errBase), ("pleacher/num.errNum", laid_pleacher_num_errNum)] }
def NumFieldsSaid : Prop := numFieldsRow.holds Tryd.pinned (OpenSpec.ofChange numFieldsSpec)

/-- ITS FALSE NEIGHBOUR: 'it returns false'. Refute it at one input. -/
def numFieldsWrong : ChangeSpec := { name := "numFields", fn := fun _ => fun
  | [d1, d2, d3] => { results := [.lit (.bool false)], args := [d1, d2, d3] }
  | _ => none }
def NumFieldsWrongFalsely : Prop := numFieldsRow.holds Tryd.pinned (OpenSpec.ofChange numFieldsWrong)

/-- 'pleacherlaw03.NumWidths': WHATEVER THE INPUT: true; the input reads as it did. -/
def numWidthsSpec : ChangeSpec := { name := "numWidths", fn := fun _ => fun
  | [d1, d2] => { results := [.lit (.bool true)], args := [d1, d2] }
  | _ => none }
def numWidthsRow : OpenClaim := { program := "ytdcgkkfpgpiejaadoor", sum := "e479a8ffdc73514d96970178204d3077d53ad5f9f132439a397e5a522ac08330", func := "pleacher/pleacherlaw03.NumWidths", spec := "numWidths", inPlace := ["internal/reflectlite.TypeOf", "internal/abi.NoEscape", "internal/bytealg.MakeNoZero"], unfollowed := true, recurses := true, named := ["pleacher/num.errBase", "pleacher/num.errNum"], apart := false, laid := [("pleacher/num.errBase", laid_pleacher_num_errBase), ("pleacher/num.errNum", laid_pleacher_num_errNum)] }
def NumWidthsSaid : Prop := numWidthsRow.holds Tryd.pinned (OpenSpec.ofChange numWidthsSpec)

/-- ITS FALSE NEIGHBOUR: 'it returns false'. Refute it at one input. -/
def numWidthsWrong : ChangeSpec := { name := "numWidths", fn := fun _ => fun
  | [d1, d2] => { results := [.lit (.bool false)], args := [d1, d2] }
  | _ => none }
def NumWidthsWrongFalsely : Prop := numWidthsRow.holds Tryd.pinned (OpenSpec.ofChange numWidthsWrong)

/-- 'pleacherlaw03.NumShort': WHATEVER THE INPUT: true; the input reads as it did. -/
def numShortSpec : ChangeSpec := { name := "numShort", fn := fun _ => fun
  | [d1, d2] => { results := [.lit (.bool true)], args := [d1, d2] }
  | _ => none }
def numShortRow : OpenClaim := { program := "ytdcgkkfpgpiejaadoor", sum := "e479a8ffdc73514d96970178204d3077d53ad5f9f132439a397e5a522ac08330", func := "pleacher/pleacherlaw03.NumShort", spec := "numShort", inPlace := ["internal/reflectlite.TypeOf", "internal/abi.NoEscape", "internal/bytealg.MakeNoZero"], unfollowed := true, recurses := true, named := ["pleacher/num.errBase", "pleacher/num.errNum"], apart := false, laid := [("pleacher/num.errBase", laid_pleacher_num_errBase), ("pleacher/num.errNum", laid_pleacher_num_errNum)] }
def NumShortSaid : Prop := numShortRow.holds Tryd.pinned (OpenSpec.ofChange numShortSpec)

/-- ITS FALSE NEIGHBOUR: 'it returns false'. Refute it at one input. -/
def numShortWrong : ChangeSpec := { name := "numShort", fn := fun _ => fun
  | [d1, d2] => { results := [.lit (.bool false)], args := [d1, d2] }
  | _ => none }
def NumShortWrongFalsely : Prop := numShortRow.holds Tryd.pinned (OpenSpec.ofChange numShortWrong)

/-- 'pleacherlaw03.NumCodes': WHATEVER THE INPUT: true; the input reads as it did. -/
def numCodesSpec : ChangeSpec := { name := "numCodes", fn := fun _ => fun
  | [d1, d2, d3] => { results := [.lit (.bool true)], args := [d1, d2, d3] }
  | _ => none }
def numCodesRow : OpenClaim := { program := "ytdcgkkfpgpiejaadoor", sum := "e479a8ffdc73514d96970178204d3077d53ad5f9f132439a397e5a522ac08330", func := "pleacher/pleacherlaw03.NumCodes", spec := "numCodes", inPlace := ["internal/reflectlite.TypeOf", "internal/abi.NoEscape", "internal/bytealg.MakeNoZero"], unfollowed := true, recurses := true, named := ["pleacher/num.errBase", "pleacher/num.errNum"], apart := false, laid := [("pleacher/num.errBase", laid_pleacher_num_errBase), ("pleacher/num.errNum", laid_pleacher_num_errNum)] }
def NumCodesSaid : Prop := numCodesRow.holds Tryd.pinned (OpenSpec.ofChange numCodesSpec)

/-- ITS FALSE NEIGHBOUR: 'it returns false'. Refute it at one input. -/
def numCodesWrong : ChangeSpec := { name := "numCodes", fn := fun _ => fun
  | [d1, d2, d3] => { results := [.lit (.bool false)], args := [d1, d2, d3] }
  | _ => none }
def NumCodesWrongFalsely : Prop := numCodesRow.holds Tryd.pinned (OpenSpec.ofChange numCodesWrong)

/-- 'pleacherlaw03.NumBack': WHATEVER THE INPUT: true; the input reads as it did. -/
def numBackSpec : ChangeSpec := { name := "numBack", fn := fun _ => fun
  | [d1, d2, d3] => { results := [.lit (.bool true)], args := [d1, d2, d3] }
  | _ => none }
def numBackRow : OpenClaim := { program := "ytdcgkkfpgpiejaadoor", sum := "e479a8ffdc73514d96970178204d3077d53ad5f9f132439a397e5a522ac08330", func := "pleacher/pleacherlaw03.NumBack", spec := "numBack", inPlace := ["internal/reflectlite.TypeOf", "internal/abi.NoEscape", "internal/bytealg.MakeNoZero"], unfollowed := true, recurses := true, named := ["pleacher/num.errBase", "pleacher/num.errNum"], apart := false, laid := [("pleacher/num.errBase", laid_pleacher_num_errBase), ("pleacher/num.errNum", laid_pleacher_num_errNum)] }
def NumBackSaid : Prop := numBackRow.holds Tryd.pinned (OpenSpec.ofChange numBackSpec)

/-- ITS FALSE NEIGHBOUR: 'it returns false'. Refute it at one input. -/
def numBackWrong : ChangeSpec := { name := "numBack", fn := fun _ => fun
  | [d1, d2, d3] => { results := [.lit (.bool false)], args := [d1, d2, d3] }
  | _ => none }
def NumBackWrongFalsely : Prop := numBackRow.holds Tryd.pinned (OpenSpec.ofChange numBackWrong)

/- THE SECOND FORM. 'bulk': how many values and letters a reading holds, each counted each time it is reached (what is shared counts as often as it is met; a slice's spare places count too). A statement '..UptoSaid' is the law's where the arguments, and the package variables that the reading takes, are together of bulk at most 1048576: NARROWER than '..Said'. Prove '..Said' where nothing that the law and all that it calls make is longer than what came in: it says more and counts as full. Else prove '..UptoSaid'. A law counts once. -/
mutual
def uptoBulk {H : Type} : DataW H → Nat
  | .lit (.string bytes) => bytes.length + 1
  | .lit _ => 1
  | .nil => 1
  | .ptr d => uptoBulk d + 1
  | .slice elems spare => uptoBulkAll elems + uptoBulkAll spare + 1
  | .agg parts => uptoBulkAll parts + 1
  | .iface _ d => uptoBulk d + 1
  | .map entries => uptoBulkEntries entries + 1
  | .held _ => 1
def uptoBulkAll {H : Type} : List (DataW H) → Nat
  | [] => 0
  | d :: r => uptoBulk d + uptoBulkAll r
def uptoBulkEntries {H : Type} : List (Lit × DataW H) → Nat
  | [] => 0
  | x :: r => uptoBulkEntry x + uptoBulkEntries r
def uptoBulkEntry {H : Type} : Lit × DataW H → Nat
  | (.string bytes, d) => bytes.length + uptoBulk d + 1
  | (_, d) => uptoBulk d + 1
 end
def uptoSmall : (H : Type) → List (DataW H) → Bool := fun _ ds => decide (uptoBulkAll ds ≤ 1048576)
def OpenSpec.upto (s : _root_.Go.ChangeSpec) : _root_.Go.OpenSpec := { _root_.Go.OpenSpec.ofChange s with cond := some uptoSmall }

/-- 'pleacherlaw03.NumOrders', WHERE WHAT IT READS IS OF BULK AT MOST 1048576: true; the input reads as it did. -/
def numOrdersUptoRow : OpenClaim := { program := "ytdcgkkfpgpiejaadoor", sum := "e479a8ffdc73514d96970178204d3077d53ad5f9f132439a397e5a522ac08330", func := "pleacher/pleacherlaw03.NumOrders", spec := "numOrders", inPlace := ["internal/reflectlite.TypeOf", "internal/abi.NoEscape", "internal/bytealg.MakeNoZero"], unfollowed := true, recurses := true, named := ["pleacher/num.errBase", "pleacher/num.errNum"], apart := false, laid := [("pleacher/num.errBase", laid_pleacher_num_errBase), ("pleacher/num.errNum", laid_pleacher_num_errNum)], narrowed := true }
def NumOrdersUptoSaid : Prop := numOrdersUptoRow.holds Tryd.pinned (OpenSpec.upto numOrdersSpec)

/-- 'pleacherlaw03.NumSums', WHERE WHAT IT READS IS OF BULK AT MOST 1048576: true; the input reads as it did. -/
def numSumsUptoRow : OpenClaim := { program := "ytdcgkkfpgpiejaadoor", sum := "e479a8ffdc73514d96970178204d3077d53ad5f9f132439a397e5a522ac08330", func := "pleacher/pleacherlaw03.NumSums", spec := "numSums", inPlace := ["internal/reflectlite.TypeOf", "internal/abi.NoEscape", "internal/bytealg.MakeNoZero"], unfollowed := true, recurses := true, named := ["pleacher/num.errBase", "pleacher/num.errNum"], apart := false, laid := [("pleacher/num.errBase", laid_pleacher_num_errBase), ("pleacher/num.errNum", laid_pleacher_num_errNum)], narrowed := true }
def NumSumsUptoSaid : Prop := numSumsUptoRow.holds Tryd.pinned (OpenSpec.upto numSumsSpec)

/-- 'pleacherlaw03.NumDigits', WHERE WHAT IT READS IS OF BULK AT MOST 1048576: true; the input reads as it did. -/
def numDigitsUptoRow : OpenClaim := { program := "ytdcgkkfpgpiejaadoor", sum := "e479a8ffdc73514d96970178204d3077d53ad5f9f132439a397e5a522ac08330", func := "pleacher/pleacherlaw03.NumDigits", spec := "numDigits", inPlace := ["internal/reflectlite.TypeOf", "internal/abi.NoEscape", "internal/bytealg.MakeNoZero"], unfollowed := true, recurses := true, named := ["pleacher/num.errBase", "pleacher/num.errNum"], apart := false, laid := [("pleacher/num.errBase", laid_pleacher_num_errBase), ("pleacher/num.errNum", laid_pleacher_num_errNum)], narrowed := true }
def NumDigitsUptoSaid : Prop := numDigitsUptoRow.holds Tryd.pinned (OpenSpec.upto numDigitsSpec)

/-- 'pleacherlaw03.NumFields', WHERE WHAT IT READS IS OF BULK AT MOST 1048576: true; the input reads as it did. -/
def numFieldsUptoRow : OpenClaim := { program := "ytdcgkkfpgpiejaadoor", sum := "e479a8ffdc73514d96970178204d3077d53ad5f9f132439a397e5a522ac08330", func := "pleacher/pleacherlaw03.NumFields", spec := "numFields", inPlace := ["internal/reflectlite.TypeOf", "internal/abi.NoEscape", "internal/bytealg.MakeNoZero"], unfollowed := true, recurses := true, named := ["pleacher/num.errBase", "pleacher/num.errNum"], apart := false, laid := [("pleacher/num.errBase", laid_pleacher_num_errBase), ("pleacher/num.errNum", laid_pleacher_num_errNum)], narrowed := true }
def NumFieldsUptoSaid : Prop := numFieldsUptoRow.holds Tryd.pinned (OpenSpec.upto numFieldsSpec)

/-- 'pleacherlaw03.NumWidths', WHERE WHAT IT READS IS OF BULK AT MOST 1048576: true; the input reads as it did. -/
def numWidthsUptoRow : OpenClaim := { program := "ytdcgkkfpgpiejaadoor", sum := "e479a8ffdc73514d96970178204d3077d53ad5f9f132439a397e5a522ac08330", func := "pleacher/pleacherlaw03.NumWidths", spec := "numWidths", inPlace := ["internal/reflectlite.TypeOf", "internal/abi.NoEscape", "internal/bytealg.MakeNoZero"], unfollowed := true, recurses := true, named := ["pleacher/num.errBase", "pleacher/num.errNum"], apart := false, laid := [("pleacher/num.errBase", laid_pleacher_num_errBase), ("pleacher/num.errNum", laid_pleacher_num_errNum)], narrowed := true }
def NumWidthsUptoSaid : Prop := numWidthsUptoRow.holds Tryd.pinned (OpenSpec.upto numWidthsSpec)

/-- 'pleacherlaw03.NumShort', WHERE WHAT IT READS IS OF BULK AT MOST 1048576: true; the input reads as it did. -/
def numShortUptoRow : OpenClaim := { program := "ytdcgkkfpgpiejaadoor", sum := "e479a8ffdc73514d96970178204d3077d53ad5f9f132439a397e5a522ac08330", func := "pleacher/pleacherlaw03.NumShort", spec := "numShort", inPlace := ["internal/reflectlite.TypeOf", "internal/abi.NoEscape", "internal/bytealg.MakeNoZero"], unfollowed := true, recurses := true, named := ["pleacher/num.errBase", "pleacher/num.errNum"], apart := false, laid := [("pleacher/num.errBase", laid_pleacher_num_errBase), ("pleacher/num.errNum", laid_pleacher_num_errNum)], narrowed := true }
def NumShortUptoSaid : Prop := numShortUptoRow.holds Tryd.pinned (OpenSpec.upto numShortSpec)

/-- 'pleacherlaw03.NumCodes', WHERE WHAT IT READS IS OF BULK AT MOST 1048576: true; the input reads as it did. -/
def numCodesUptoRow : OpenClaim := { program := "ytdcgkkfpgpiejaadoor", sum := "e479a8ffdc73514d96970178204d3077d53ad5f9f132439a397e5a522ac08330", func := "pleacher/pleacherlaw03.NumCodes", spec := "numCodes", inPlace := ["internal/reflectlite.TypeOf", "internal/abi.NoEscape", "internal/bytealg.MakeNoZero"], unfollowed := true, recurses := true, named := ["pleacher/num.errBase", "pleacher/num.errNum"], apart := false, laid := [("pleacher/num.errBase", laid_pleacher_num_errBase), ("pleacher/num.errNum", laid_pleacher_num_errNum)], narrowed := true }
def NumCodesUptoSaid : Prop := numCodesUptoRow.holds Tryd.pinned (OpenSpec.upto numCodesSpec)

/-- 'pleacherlaw03.NumBack', WHERE WHAT IT READS IS OF BULK AT MOST 1048576: true; the input reads as it did. -/
def numBackUptoRow : OpenClaim := { program := "ytdcgkkfpgpiejaadoor", sum := "e479a8ffdc73514d96970178204d3077d53ad5f9f132439a397e5a522ac08330", func := "pleacher/pleacherlaw03.NumBack", spec := "numBack", inPlace := ["internal/reflectlite.TypeOf", "internal/abi.NoEscape", "internal/bytealg.MakeNoZero"], unfollowed := true, recurses := true, named := ["pleacher/num.errBase", "pleacher/num.errNum"], apart := false, laid := [("pleacher/num.errBase", laid_pleacher_num_errBase), ("pleacher/num.errNum", laid_pleacher_num_errNum)], narrowed := true }
def NumBackUptoSaid : Prop := numBackUptoRow.holds Tryd.pinned (OpenSpec.upto numBackSpec)

end Rows
end Go.Proofs.YtdcgkkfpgpiejaaDoor
