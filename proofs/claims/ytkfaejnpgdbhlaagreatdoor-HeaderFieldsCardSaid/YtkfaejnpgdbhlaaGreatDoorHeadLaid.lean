/-
  What the rows' listed variables give the walks over package header, and a world for the witness.
-/
import Derived.Test.YtkfaejnpgdbhlaaGreatDoorCards
import Derived.Test.YtkfaejnpgdbhlaaGreatDoorTie
import Derived.Test.YtkfaejnpgdbhlaaGreatDoorPathRight
import Derived.Test.YtkfaejnpgdbhlaaGreatDoorPost
import Derived.WalkKit
import Derived.ProofKit
import Derived.OpenShut
import Derived.Deep.DeepHandedRow
import Derived.Stop.LaidTwo
import Derived.SevenTiedAt
import Derived.LaidSub
import Derived.LaidHandle
import Derived.Lay
namespace Go.Proofs.YtkfaejnpgdbhlaaGreatDoor
open Go.ChangeShapes Go.WideShapes Go.ChangeAt Go.RowKit

theorem own : ownKnob Tryz.prog.godebug = none := by kernel_rfl
theorem gBase : Tryz.prog.globalNamed "pleacher/num.errBase" = some 2 := by kernel_rfl
theorem gNum : Tryz.prog.globalNamed "pleacher/num.errNum" = some 0 := by kernel_rfl
theorem gPath : Tryz.prog.globalNamed "pleacher/path.errPath" = some 3 := by kernel_rfl
theorem gBaseType : (Tryz.prog.globals[2]?).map (·.type) = some 46 := by kernel_rfl
theorem gNumType : (Tryz.prog.globals[0]?).map (·.type) = some 46 := by kernel_rfl
theorem gPathType : (Tryz.prog.globals[3]?).map (·.type) = some 46 := by kernel_rfl
theorem cellsErr : Tryz.prog.cellsOf 270 = 1 := by kernel_rfl
theorem cellsStr : Tryz.prog.cellsOf 9 = 1 := by kernel_rfl
theorem starErr : "*" ++ "errors.errorString" = "*errors.errorString" := by decide
theorem rowErr (u : TypeId) (h : Tryz.prog.typeName? 3 u = some "*errors.errorString") : u = 252 :=
  typeName_ptr_named (nm := "errors.errorString") (by rw [starErr]; kernel_rfl) (by kernel_rfl) (by decide) u (by rw [starErr]; exact h)

/-- The rows' list. -/
def laid6 : List (String × DataW Unit) := [("unicode/utf8.acceptRanges", Rows.laid_unicode_utf8_acceptRanges), ("errors.errorType", Rows.laid_errors_errorType), ("pleacher/num.errBase", Rows.laid_pleacher_num_errBase), ("pleacher/num.errNum", Rows.laid_pleacher_num_errNum), ("pleacher/path.errPath", Rows.laid_pleacher_path_errPath), ("unicode/utf8.first", Rows.laid_unicode_utf8_first)]
theorem laid_nums : (laid6.filter fun x => x.1 == "pleacher/num.errBase" || x.1 == "pleacher/num.errNum") = [("pleacher/num.errBase", Rows.laid_pleacher_num_errBase), ("pleacher/num.errNum", Rows.laid_pleacher_num_errNum)] := by kernel_rfl
theorem laid_path : (laid6.filter fun x => x.1 == "pleacher/path.errPath") = [("pleacher/path.errPath", Rows.laid_pleacher_path_errPath)] := by kernel_rfl

/-- What the list gives. -/
theorem errs_of_laid {W : World} (h : laidMetH Tryz.prog laid6 W) : (∃ a b, NumErrs W a b) ∧ ∃ ea, PathErr W ea := by
  have h1 := h.filter fun x => x.1 == "pleacher/num.errBase" || x.1 == "pleacher/num.errNum"
  have h2 := h.filter fun x => x.1 == "pleacher/path.errPath"
  rw [laid_nums, MakeChecks.laidMetH_plain _ _ _ (by kernel_rfl)] at h1
  rw [laid_path, MakeChecks.laidMetH_plain _ _ _ (by kernel_rfl)] at h2
  obtain ⟨a0, a1, s0, s1, c0, c1, t0, t1, hv0, hv1, _, _, _, _, _, _, hne, hb0, hb1⟩ := laid_sentinels2 h1 gBase gBaseType gNum gNumType Tryz.underlying46 rowErr Tryz.underlying252 Tryz.underlying270 rfl rfl Tryz.underlying9 cellsErr cellsStr
  obtain ⟨ea, s, hv, _⟩ := laid_sentinel h2 gPath gPathType Tryz.underlying46 rowErr Tryz.underlying252 Tryz.underlying270 rfl rfl Tryz.underlying9 cellsErr cellsStr
  exact ⟨⟨a0, a1, by simpa using World.var?_cell gBase hv0 0, by simpa using World.var?_cell gNum hv1 0, hne, ⟨_, _, hb0⟩, ⟨_, _, hb1⟩⟩, ea, by unfold PathErr; simpa using World.var?_cell gPath hv 0⟩

/-- The variables that hold data. -/
def laid5 : List (String × DataW Unit) := laid6.filter fun x => x.2.handleName?.isNone
/-- A world in which errors.errorType lies. -/
noncomputable def handWorld (os : Os) : World :=
  let w0 := World.holding Tryz.prog os ⟨#[], #[], []⟩
  { w0 with heap := w0.heap.modify 1 fun
      | .cells _ t frozen => .cells #[.iface ((Tryz.prog.cutTypes.find? (·.1 == "internal/reflectlite.rtype")).map (·.2) |>.getD 0) (.agg #[typeHandle Tryz.prog 46])] t frozen
      | o => o }
/-- A world in which all six lie as their initialisers lay them. -/
noncomputable def laidWorld (os : Os) : World := (handWorld os).layVars Tryz.prog laid5
theorem laidWorld_os (os : Os) : (laidWorld os).os = os := World.layVars_os _ _ _
theorem laid5_met (os : Os) : laidMet Tryz.prog laid5 (laidWorld os) := by
  have e1 : (laid5.filter fun x => (laid5.map (·.1)).contains x.1) = laid5 := List.filter_eq_self.2 fun x hx => List.contains_iff_mem.2 (List.mem_map.2 ⟨x, hx, rfl⟩)
  have e2 : (laid5.filter fun x => !(laid5.map (·.1)).contains x.1) = [] := List.filter_eq_nil_iff.2 fun x hx => by rw [List.contains_iff_mem.2 (List.mem_map.2 ⟨x, hx, rfl⟩)]; simp
  exact laidMet_layVars (w0 := handWorld os) (laid5.map (·.1)) [] (by rw [e1]; rfl) (by rw [e1]; kernel_rfl) (by rw [e1]; kernel_rfl) (by rw [e2]; exact LaidIn.none)
theorem laid_met (os : Os) (args : Array Value) : laidMetH Tryz.prog laid6 ((laidWorld os).forCall (fun _ _ => 0) ⟨#[], args, []⟩).memory :=
  laidMetH_of_parts ((laid5_met os).of_heap (by simp [World.memory, World.forCall, Input.heap])) (by kernel_rfl)
end Go.Proofs.YtkfaejnpgdbhlaaGreatDoor
