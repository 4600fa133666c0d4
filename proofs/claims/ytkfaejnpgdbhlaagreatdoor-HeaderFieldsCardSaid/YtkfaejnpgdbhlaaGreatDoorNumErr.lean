/-
  errors.Is over the two sentinel errors of package num, and num's function told, by their contracts, for every world in which the two variables hold two different pointers.
-/
import Derived.Test.YtkfaejnpgdbhlaaGreatDoorChecked
import Derived.WalkKit
import Derived.LaidEql
import Derived.Stop.Asserts
import Derived.RowKitTokens
namespace Go.Proofs.YtkfaejnpgdbhlaaGreatDoor
open Go.RowKit Go.Extern.Stop Go.Stop Go.Extern

theorem E.isTypeOf (v : Value) (w : World) : (Extern.ReflectliteType.typeOf #[.iface 252 v]).run Tryz.prog w = .ok (.iface 144 (.agg #[.pointer (some ⟨7, 252, none⟩)])) w := by kernel_rfl
/-- What the model runs for (rtype).Comparable, behind a name. -/
def E.cmpExt : Array Value → Sem Value := Extern.ReflectliteType.method fun t => do Extern.Rtype.noPackHeld "Comparable" t; pure (.bool (← typeInfo t).comparable)
theorem E.isComparable (w : World) : (E.cmpExt #[.agg #[.pointer (some ⟨7, 252, none⟩)]]).run Tryz.prog w = .ok (.bool true) w := by kernel_rfl
theorem E.isMethod (v : Value) (w : World) : (Go.method 382 144 v "Comparable").run Tryz.prog w = .ok (213, v) w := by kernel_rfl
theorem E.isComp : (Tryz.prog.info? 252).map (·.comparable) = some true := by kernel_rfl
theorem E.isSize : (Tryz.prog.info? 270).map (·.size) = some 1 := by kernel_rfl
theorem E.noIs (v : Value) (xT : TypeId) (w : World) : (Instr.typeAssert (.iface 252 v) xT 214 true).run Tryz.prog w = .ok (.tuple #[.nilIface, .bool false]) w := run_typeAssert_lacksB Tryz.underlying214 (by kernel_rfl) (by kernel_rfl) v xT w
theorem E.noUnwrap (v : Value) (xT : TypeId) (w : World) : (Instr.typeAssert (.iface 252 v) xT 152 true).run Tryz.prog w = .ok (.tuple #[.nilIface, .bool false]) w := run_typeAssert_lacksB Tryz.underlying152 (by kernel_rfl) (by kernel_rfl) v xT w
theorem E.noUnwraps (v : Value) (xT : TypeId) (w : World) : (Instr.typeAssert (.iface 252 v) xT 153 true).run Tryz.prog w = .ok (.tuple #[.nilIface, .bool false]) w := run_typeAssert_lacksB Tryz.underlying153 (by kernel_rfl) (by kernel_rfl) v xT w

/-- errors.Is(nil, x). -/
theorem is_nil (b : Addr) (w : World) :
    Calls Tryz.prog 97 #[.nilIface, .iface 252 (.pointer (some b))] w fun e w' => e = .returned (.bool false) ∧ w = w' := by
  have hn := run_eql_iface_nil_left (P := Tryz.prog) w 252 (.pointer (some b)) Tryz.underlying46
  go_enter Tryz.func97, Tryz.ntmps97
  go_wp2
  go_ret
  exact ⟨rfl, rfl⟩

set_option maxRecDepth 100000 in
/-- errors.Is(x, x), x a pointer to an errors.errorString. -/
theorem is_same (a : Addr) (w : World) :
    Calls Tryz.prog 97 #[.iface 252 (.pointer (some a)), .iface 252 (.pointer (some a))] w fun e w' => e = .returned (.bool true) ∧ w = w' := by
  obtain ⟨i, hi, hcmp⟩ := Option.map_eq_some_iff.1 E.isComp
  obtain ⟨j, hj, hjs⟩ := Option.map_eq_some_iff.1 E.isSize
  have h8 := @run_callFunc_extern Tryz.prog 104 _ Extern.ReflectliteType.typeOf Tryz.func104 (by kernel_rfl) (by kernel_rfl) (by kernel_rfl) (by kernel_rfl)
  have h32 := @run_callFunc_extern Tryz.prog 213 _ E.cmpExt Tryz.func213 (by kernel_rfl) (by kernel_rfl) (by kernel_rfl) (by kernel_rfl)
  have tT := E.isTypeOf
  have cT := E.isComparable
  have mR := E.isMethod
  have heq := run_eql_iface_ptr_same (P := Tryz.prog) w a Tryz.underlying46 Tryz.underlying252 hi hcmp hj
  go_enter Tryz.func97, Tryz.ntmps97
  go_wp2
  refine wp_loop_rounds 1 ?_
  rw [rounds_succ]
  go_wp2
  go_ret
  exact ⟨rfl, rfl⟩

set_option maxRecDepth 100000 in
/-- errors.Is(x, y), two different pointers to errors.errorString: neither has Is nor Unwrap: false. -/
theorem is_other (a b : Addr) (ca cb : Array Value) (ta tb : TypeId) (w : World) (hne : a ≠ b) (ha : w.heap[a.block]? = some (.cells ca ta (0, 0))) (hb : w.heap[b.block]? = some (.cells cb tb (0, 0))) :
    Calls Tryz.prog 97 #[.iface 252 (.pointer (some a)), .iface 252 (.pointer (some b))] w fun e w' => e = .returned (.bool false) ∧ w = w' := by
  obtain ⟨i, hi, hcmp⟩ := Option.map_eq_some_iff.1 E.isComp
  obtain ⟨j, hj, hjs⟩ := Option.map_eq_some_iff.1 E.isSize
  have h8 := @run_callFunc_extern Tryz.prog 104 _ Extern.ReflectliteType.typeOf Tryz.func104 (by kernel_rfl) (by kernel_rfl) (by kernel_rfl) (by kernel_rfl)
  have h32 := @run_callFunc_extern Tryz.prog 213 _ E.cmpExt Tryz.func213 (by kernel_rfl) (by kernel_rfl) (by kernel_rfl) (by kernel_rfl)
  have tT := E.isTypeOf
  have cT := E.isComparable
  have mR := E.isMethod
  have nE := E.noIs
  have uE := E.noUnwrap
  have vE := E.noUnwraps
  have heq := run_eql_iface_ptr_other (P := Tryz.prog) w Tryz.underlying46 Tryz.underlying252 hi hcmp hj (by rw [hjs]; decide) hne ha hb
  go_enter Tryz.func97, Tryz.ntmps97
  go_wp2
  refine wp_loop_rounds 1 ?_
  rw [rounds_succ]
  go_wp2
  go_ret
  exact ⟨rfl, rfl⟩

end Go.Proofs.YtkfaejnpgdbhlaaGreatDoor
