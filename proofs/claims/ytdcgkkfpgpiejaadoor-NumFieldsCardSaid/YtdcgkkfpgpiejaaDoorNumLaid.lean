/-
  What the rows' listed variables give the walks over package num, and a world for the witness.
-/
import Derived.Test.YtdcgkkfpgpiejaaDoorCards
import Derived.Test.YtdcgkkfpgpiejaaDoorTie
import Derived.Test.YtdcgkkfpgpiejaaDoorNumTold
import Derived.Test.YtdcgkkfpgpiejaaDoorPost
import Derived.WalkKit
import Derived.ProofKit
import Derived.OpenShut
import Derived.Deep.DeepHandedRow
import Derived.Stop.LaidTwo
import Derived.SevenTiedAt
namespace Go.Proofs.YtdcgkkfpgpiejaaDoor
open Go.ChangeShapes Go.WideShapes Go.ChangeAt Go.RowKit

theorem own : ownKnob Tryd.prog.godebug = none := by kernel_rfl
theorem gBase : Tryd.prog.globalNamed "pleacher/num.errBase" = some 0 := by kernel_rfl
theorem gNum : Tryd.prog.globalNamed "pleacher/num.errNum" = some 1 := by kernel_rfl
theorem gBaseType : (Tryd.prog.globals[0]?).map (·.type) = some 40 := by kernel_rfl
theorem gNumType : (Tryd.prog.globals[1]?).map (·.type) = some 40 := by kernel_rfl
theorem cellsErr : Tryd.prog.cellsOf 121 = 1 := by kernel_rfl
theorem cellsStr : Tryd.prog.cellsOf 9 = 1 := by kernel_rfl
theorem starErr : "*" ++ "errors.errorString" = "*errors.errorString" := by decide
theorem rowErr (u : TypeId) (h : Tryd.prog.typeName? 3 u = some "*errors.errorString") : u = 99 :=
  typeName_ptr_named (nm := "errors.errorString") (by rw [starErr]; kernel_rfl) (by kernel_rfl) (by decide) u (by rw [starErr]; exact h)

/-- What the list gives. -/
theorem numErrs_of_laid {W : World} (h : laidMetH Tryd.prog [("pleacher/num.errBase", Rows.laid_pleacher_num_errBase), ("pleacher/num.errNum", Rows.laid_pleacher_num_errNum)] W) : ∃ a b, NumErrs W a b := by
  rw [MakeChecks.laidMetH_plain _ _ _ (by kernel_rfl)] at h
  obtain ⟨a0, a1, s0, s1, c0, c1, t0, t1, hv0, hv1, _, _, _, _, _, _, hne, hb0, hb1⟩ := laid_sentinels2 h gBase gBaseType gNum gNumType Tryd.underlying40 rowErr Tryd.underlying99 Tryd.underlying121 rfl rfl Tryd.underlying9 cellsErr cellsStr
  exact ⟨a0, a1, by simpa using World.var?_cell gBase hv0 0, by simpa using World.var?_cell gNum hv1 0, hne, ⟨_, _, hb0⟩, ⟨_, _, hb1⟩⟩

noncomputable def low : Nat := (World.holding Tryd.prog default ⟨#[], #[], []⟩).heap.size
/-- A world in which the two variables lie as their initialisers lay them. -/
noncomputable def laidWorld (os : Os) : World :=
  let w0 := World.holding Tryd.prog os ⟨#[.cells #[.string ⟨#[110, 111, 32, 98, 97, 115, 101]⟩] 121, .cells #[.string ⟨#[110, 111, 32, 110, 117, 109, 98, 101, 114]⟩] 121], #[], []⟩
  { w0 with heap := (w0.heap.modify 0 fun
      | .cells _ t frozen => .cells #[.iface 99 (.pointer (some ⟨low, 0, none⟩))] t frozen
      | o => o).modify 1 fun
      | .cells _ t frozen => .cells #[.iface 99 (.pointer (some ⟨low + 1, 0, none⟩))] t frozen
      | o => o }
theorem laid_met (os : Os) (args : Array Value) : laidMet Tryd.prog [("pleacher/num.errBase", Rows.laid_pleacher_num_errBase), ("pleacher/num.errNum", Rows.laid_pleacher_num_errNum)] ((laidWorld os).forCall (fun _ _ => 0) ⟨#[], args, []⟩).memory :=
  laidMet_of_run (ps := [.cell 0 0, .cell low 0, .cell 1 0, .cell (low + 1) 0]) 8 (by kernel_rfl) (by kernel_rfl) (by kernel_rfl)
end Go.Proofs.YtdcgkkfpgpiejaaDoor
