/-
  A head among the arguments, opened and shut; and what the list says of errors.errorType.
-/
import Derived.Test.YtkfaejnpgdbhlaaGreatDoorHeadLaid
import Derived.Test.YtkfaejnpgdbhlaaGreatDoorHeadGetW
import Derived.Lib.SmallJoins
import Derived.SizedLaws
namespace Go.Proofs.YtkfaejnpgdbhlaaGreatDoor
open Go.ChangeShapes Go.WideShapes Go.ChangeAt Go.RowKit Go.Joins
open Go.ChangeMaps (open_string shut_string)

section
variable {H : Type} {enc : TypeId × Value → H} {W : World} {base : Nat} {sp : Nat → Bool} {held : Bool}

theorem cellsHead : Tryz.prog.cellsOf 25 = 3 := by kernel_rfl

set_option maxRecDepth 100000 in
theorem open_head {r : Reach} {b0 : Nat} {v : Value} {d : DataW H} {p : List MemPlace} (hv : Value.okWide Tryz.prog W r b0 25 v) (h : DataW.Trod enc Tryz.prog W base sp held 25 v d p) :
    ∃ (s : ByteArray) (x y : Int), v = .agg #[.string s, .int .u8 x, .int .u64 y] ∧ d = .agg [.lit (.string s.data.toList), .lit (.int .u8 x), .lit (.int .u64 y)] ∧ p = [] ∧ s.size ≤ maxLen ∧ (Lit.int .u8 x).wf = true ∧ (Lit.int .u64 y).wf = true := by
  obtain ⟨c0, c1, c2, y0, y1, y2, m, rfl, rfl, rfl, hy0, hy1, hy2⟩ := open_agg3 Tryz.underlying25 (by kernel_rfl) cellsHead hv h
  obtain ⟨s, e0, rfl, ws⟩ := DataW.trod_string Tryz.underlying9 hy0
  obtain ⟨x, e1, rfl, wx⟩ := DataW.trod_int Tryz.underlying5 hy1
  obtain ⟨y, e2, rfl, wy⟩ := DataW.trod_int Tryz.underlying23 hy2
  simp at e0 e1 e2
  subst e0 e1 e2
  exact ⟨s, x, y, rfl, rfl, rfl, ws, wx, wy⟩

set_option maxRecDepth 100000 in
theorem shut_head (s : ByteArray) (x y : Int) (ws : s.size ≤ maxLen) (wx : (Lit.int .u8 x).wf = true) (wy : (Lit.int .u64 y).wf = true) :
    DataW.Trod enc Tryz.prog W base sp held 25 (.agg #[.string s, .int .u8 x, .int .u64 y]) (.agg [.lit (.string s.data.toList), .lit (.int .u8 x), .lit (.int .u64 y)]) [] := by
  simpa using shut_agg3 (enc := enc) (w := W) (base := base) (spare := sp) (held := held) (y0 := (.lit (.string s.data.toList), [])) (y1 := (.lit (.int .u8 x), [])) (y2 := (.lit (.int .u64 y), [])) Tryz.underlying25 (by kernel_rfl) cellsHead
    ⟨1, by simp [DataW.trod, Tryz.underlying9, ws]⟩ ⟨1, by simp [DataW.trod, Tryz.underlying5, wx]⟩ ⟨1, by simp [DataW.trod, Tryz.underlying23, wy]⟩

theorem sized_head {ts : List TypeId} {ds : List (DataW H)} (h : (DataW.weightsEach Tryz.prog ts ds).all (· ≤ reachBytes) = true) {j : Nat} {bytes : List UInt8} {a b : DataW H} (ht : ts[j]? = some 25) (hd : ds[j]? = some (.agg [.lit (.string bytes), a, b])) : bytes.length ≤ reachBytes := by
  have := List.all_eq_true.1 h _ (DataW.weights_mem_each ht hd bytes.length (by simp [DataW.weights, DataW.weightsEach, Tryz.underlying25]))
  simpa using this
end

theorem handle_row : (laid6.filter fun x => x.2.handleName?.isSome) = [("errors.errorType", Rows.laid_errors_errorType)] := by kernel_rfl
theorem handle_types : ((List.range Tryz.prog.types.size).all fun ty => !Tryz.prog.rowNamed ty [101, 114, 114, 111, 114] || ty == 46) = true := by kernel_rfl
theorem gType : Tryz.prog.globalNamed "errors.errorType" = some 1 := by kernel_rfl

theorem type_of_laid {W : World} (h : laidMetH Tryz.prog laid6 W) : ErrType W := by
  obtain ⟨_, h2⟩ := laidMetH_iff.1 h
  rw [handle_row] at h2
  have h3 := h2 _ (List.mem_singleton.2 rfl)
  have ef : (Rows.laid_errors_errorType : DataW Unit).funcsIn? = none := by kernel_rfl
  simp only [ef] at h3
  obtain ⟨name, u, ty, hn, hu, hty, hrow, hv⟩ := h3
  have en : (Rows.laid_errors_errorType : DataW Unit).handleName? = some [101, 114, 114, 111, 114] := by kernel_rfl
  obtain rfl := Option.some.inj (en.symm.trans hn)
  have eu : (Tryz.prog.cutTypes.find? (·.1 == "internal/reflectlite.rtype")).map (·.2) = some 144 := by kernel_rfl
  obtain rfl := Option.some.inj (eu.symm.trans hu)
  have ht := List.all_eq_true.1 handle_types ty (List.mem_range.2 hty)
  rw [hrow] at ht
  obtain rfl : ty = 46 := by simpa using ht
  have eh : typeHandle Tryz.prog 46 = hdl 46 := by kernel_rfl
  rw [eh] at hv
  unfold ErrType
  simpa using World.var?_cell gType hv 0
end Go.Proofs.YtkfaejnpgdbhlaaGreatDoor
