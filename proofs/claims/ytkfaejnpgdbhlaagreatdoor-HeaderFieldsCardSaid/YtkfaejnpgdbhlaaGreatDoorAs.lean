/-
  errors.As at the target '*wrong' of package header, by contract: an error that is a wrong; and header's told. After the guide's worked text on errors.As at a pointer's target: the target here is a struct of two cells.
-/
import Derived.Test.YtkfaejnpgdbhlaaGreatDoorChecked
import Derived.Test.YtkfaejnpgdbhlaaGreatDoorGrown
import Derived.WalkKit
import Derived.LaidEql
import Derived.Stop.Asserts
import Derived.RowKitTokens
import Derived.Deep.QuietTactic
import Derived.BigQuiet
import Derived.Lib.Hide
namespace Go.Proofs.YtkfaejnpgdbhlaaGreatDoor
open Go.RowKit Go.Extern.Stop Go.Stop Go.Extern

/-- A type's handle. -/
abbrev hdl (t : Nat) : Value := .pointer (some ⟨7, t, none⟩)

theorem as_nil (t : Value) (w : World) :
    Calls Tryz.prog 48 #[.nilIface, t] w fun e w' => e = .returned (.bool false) ∧ w' = w := by
  go_enter Tryz.func48, Tryz.ntmps48
  go_wp2
  go_ret
  exact ⟨rfl, rfl⟩

theorem As.valueOfP (t : Addr) (w : World) : (ReflectliteValue.unpack (.iface 95 (.pointer (some t)))).run Tryz.prog w
    = .ok (.agg #[hdl 95, .pointer (some ⟨w.heap.size, 0, none⟩), .int .u64 150]) (w.alloc (.cells #[.pointer (some t)] 95)) := by kernel_rfl
theorem As.typeP (a : Addr) (w : World) : (ReflectliteValue.methodAny (ReflectliteValue.valueError "reflectlite.Value.Type" 0) (fun t _ _ _ => ReflectliteType.toType t) #[.agg #[hdl 95, .pointer (some a), .int .u64 150]]).run Tryz.prog w
    = .ok (.iface 144 (.agg #[hdl 95])) w := by kernel_rfl
theorem As.methodKind (h : Value) (w : World) : (Go.method 382 144 (.agg #[h]) "Kind").run Tryz.prog w = .ok (204, h) w := by kernel_rfl
theorem As.kindP (w : World) : ((ReflectliteType.abiMethod fun t => (fun a : Nat => Value.int IntKind.u8 (a : Int)) <$> Rtype.kind t) #[hdl 95]).run Tryz.prog w = .ok (.int .u8 22) w := by kernel_rfl
theorem As.kindE (w : World) : ((ReflectliteType.abiMethod fun t => (fun a : Nat => Value.int IntKind.u8 (a : Int)) <$> Rtype.kind t) #[hdl 91]).run Tryz.prog w = .ok (.int .u8 25) w := by kernel_rfl
theorem As.rlm (z : Sem Value) (f : TypeId → Addr → Nat → Nat → Sem Value) (v : Value) :
    ReflectliteValue.method z f #[v] = (do match ← ReflectliteValue.parts v with | none => z | some (t, a, fl) => f t a fl (fl % 32)) := rfl
theorem As.partsP (a : Addr) (w : World) : (ReflectliteValue.parts (.agg #[hdl 95, .pointer (some a), .int .u64 150])).run Tryz.prog w = .ok (some (95, a, 150)) w := by kernel_rfl
theorem As.isNilP (a p : Addr) (W : World) (ha : W.cell? a = some (.pointer (some p))) :
    (ReflectliteValue.method (ReflectliteValue.valueError "reflectlite.Value.IsNil" 0) ReflectliteValue.isNil #[.agg #[hdl 95, .pointer (some a), .int .u64 150]]).run Tryz.prog W = .ok (.bool false) W := by
  rw [As.rlm]
  simp only [Sem.run_bind, As.partsP, Result.andThen]
  simp [ReflectliteValue.isNil, loadVar, isAgg, underlying, Tryz.underlying95, ha, Result.andThen]

theorem As.methodElem (h : Value) (w : World) : (Go.method 382 144 (.agg #[h]) "Elem").run Tryz.prog w = .ok (214, .agg #[h]) w := by kernel_rfl
theorem As.methodImplements (h : Value) (w : World) : (Go.method 382 144 (.agg #[h]) "Implements").run Tryz.prog w = .ok (215, .agg #[h]) w := by kernel_rfl
theorem As.methodAssignableTo (h : Value) (w : World) : (Go.method 382 144 (.agg #[h]) "AssignableTo").run Tryz.prog w = .ok (212, .agg #[h]) w := by kernel_rfl
theorem As.elemP (w : World) : (ReflectliteType.method ReflectliteType.elem #[.agg #[hdl 95]]).run Tryz.prog w = .ok (.iface 144 (.agg #[hdl 91])) w := by kernel_rfl
theorem As.implementsE (w : World) : (ReflectliteType.relation "Implements" ReflectliteType.implements_ #[.agg #[hdl 91], .iface 144 (.agg #[hdl 46])]).run Tryz.prog w = .ok (.bool true) w := by kernel_rfl
theorem As.typeOfE (v : Value) (w : World) : (ReflectliteType.typeOf #[.iface 91 v]).run Tryz.prog w = .ok (.iface 144 (.agg #[hdl 91])) w := by kernel_rfl
theorem As.assignableE (w : World) : (ReflectliteType.relation "AssignableTo" ReflectliteType.assignableTo #[.agg #[hdl 91], .iface 144 (.agg #[hdl 91])]).run Tryz.prog w = .ok (.bool true) w := by kernel_rfl
theorem As.valueOfE (a b : Value) (w : World) : (ReflectliteValue.unpack (.iface 91 (.agg #[a, b]))).run Tryz.prog w
    = .ok (.agg #[hdl 91, .pointer (some ⟨w.heap.size, 0, none⟩), .int .u64 153]) (w.alloc (.cells #[a, b] 91)) := by kernel_rfl

theorem As.elemOfP (w : World) : (Rtype.elem? 95).run Tryz.prog w = .ok (some 91) w := by kernel_rfl
theorem As.mkE (p : Addr) (w : World) : (ReflectliteValue.mk 91 p ReflectliteValue.flagAddr).run Tryz.prog w = .ok (.agg #[hdl 91, .pointer (some p), .int .u64 409]) w := by kernel_rfl
theorem As.elemVP (a p : Addr) (W : World) (ha : W.cell? a = some (.pointer (some p))) :
    (ReflectliteValue.method (ReflectliteValue.valueError "reflectlite.Value.Elem" 0) ReflectliteValue.elem #[.agg #[hdl 95, .pointer (some a), .int .u64 150]]).run Tryz.prog W
      = .ok (.agg #[hdl 91, .pointer (some p), .int .u64 409]) W := by
  rw [As.rlm]
  simp only [Sem.run_bind, As.partsP, Result.andThen]
  simp [ReflectliteValue.elem, loadVar, isAgg, underlying, Tryz.underlying95, ha, Result.andThen, As.elemOfP, As.mkE]
theorem As.partsEa (a : Addr) (w : World) : (ReflectliteValue.parts (.agg #[hdl 91, .pointer (some a), .int .u64 409])).run Tryz.prog w = .ok (some (91, a, 409)) w := by kernel_rfl
theorem As.partsE (a : Addr) (w : World) : (ReflectliteValue.parts (.agg #[hdl 91, .pointer (some a), .int .u64 153])).run Tryz.prog w = .ok (some (91, a, 153)) w := by kernel_rfl
theorem As.directE (w : World) : (Rtype.directlyAssignable 91 91).run Tryz.prog w = .ok true w := by kernel_rfl
end Go.Proofs.YtkfaejnpgdbhlaaGreatDoor

/-
  errors.As at '*wrong' where the error is a wrong; header's told, by contract.
-/
namespace Go.Proofs.YtkfaejnpgdbhlaaGreatDoor
open Go.RowKit Go.Extern.Stop Go.Stop Go.Extern

theorem As.rls (v x : Value) : ReflectliteValue.set #[v, x] = (do
    let (some (dst, a, fl), some (src, b, _)) := (← ReflectliteValue.parts v, ← ReflectliteValue.parts x)
      | unsupported (.noEntry "extern/(internal/reflectlite.Value).Set.zeroValue")
    if fl / ReflectliteValue.flagAddr % 2 == 0 then unsupported (.noEntry "extern/(internal/reflectlite.Value).Set.unaddressable")
    let val ← loadVar src b
    if ← Rtype.directlyAssignable dst src then storeVar dst a val
    else if ← Rtype.implements dst src then
      if (← Rtype.kind src) == 20 then
        match val with
        | .nilIface => unsupported (.noEntry "extern/reflectlite: a nil value of one interface type handed on as a value of another")
        | _ => storeVar dst a val
      else storeVar dst a (.iface src val)
    else panicString ("reflectlite.Set: value of type " ++ (← Rtype.spelt src) ++ " is not assignable to type " ++ (← Rtype.spelt dst))
    pure (.tuple #[])) := rfl

theorem As.loadE (b : Nat) (x y : Value) (W : World) (h0 : W.cell? ⟨b, 0, none⟩ = some x) (h1 : W.cell? ⟨b, 1, none⟩ = some y) : (loadVar 91 ⟨b, 0, none⟩).run Tryz.prog W = .ok (.agg #[x, y]) W := by
  go_simp
theorem As.storeE (b : Nat) (x y : Int) (o0 o1 : Value) (W : World) (h0 : W.heap[b]? = some (.cells #[o0, o1] 91 (0, 0))) : (storeVar 91 ⟨b, 0, none⟩ (.agg #[.int .i64 x, .int .i64 y])).run Tryz.prog W = .ok () ((W.setCell ⟨b, 0, none⟩ (.int .i64 x)).setCell ⟨b, 1, none⟩ (.int .i64 y)) := by
  have c0 : W.cell? ⟨b, 0, none⟩ = some o0 := by simp [World.cell?, h0]
  have c1 : W.cell? ⟨b, 1, none⟩ = some o1 := by simp [World.cell?, h0]
  have f0 : W.frozen? ⟨b, 0, none⟩ = false := by simp [World.frozen?, h0]
  have f1 : W.frozen? ⟨b, 1, none⟩ = false := by simp [World.frozen?, h0]
  go_simp

theorem As.setE (tb b : Nat) (x y : Int) (o0 o1 : Value) (W : World) (hb0 : W.cell? ⟨b, 0, none⟩ = some (.int .i64 x)) (hb1 : W.cell? ⟨b, 1, none⟩ = some (.int .i64 y)) (ht : W.heap[tb]? = some (.cells #[o0, o1] 91 (0, 0))) :
    (ReflectliteValue.set #[.agg #[hdl 91, .pointer (some ⟨tb, 0, none⟩), .int .u64 409], .agg #[hdl 91, .pointer (some ⟨b, 0, none⟩), .int .u64 153]]).run Tryz.prog W
      = .ok (.tuple #[]) ((W.setCell ⟨tb, 0, none⟩ (.int .i64 x)).setCell ⟨tb, 1, none⟩ (.int .i64 y)) := by
  have hl := As.loadE b _ _ W hb0 hb1
  have hs := As.storeE tb x y o0 o1 W ht
  rw [As.rls]
  simp only [Sem.run_bind, As.partsEa, As.partsE, Result.andThen]
  simp [ReflectliteValue.flagAddr, hl, Result.andThen, As.directE, hs]

set_option maxRecDepth 100000 in
set_option maxHeartbeats 4000000 in
theorem as_hit (x y : Int) (tb : Nat) (o0 o1 : Value) (w : World) (hg : w.cell? ⟨1, 0, none⟩ = some (.iface 144 (.agg #[hdl 46]))) (ht : w.heap[tb]? = some (.cells #[o0, o1] 91 (0, 0))) :
    Calls Tryz.prog 48 #[.iface 91 (.agg #[.int .i64 x, .int .i64 y]), .iface 95 (.pointer (some ⟨tb, 0, none⟩))] w fun ev w' => ev = .returned (.bool true) ∧ w'.heap[tb]? = some (.cells #[.int .i64 x, .int .i64 y] 91 (0, 0)) ∧ w.grownBy w' (some tb) := by
  have h6 := @run_callFunc_extern Tryz.prog 76 _ (fun args => ReflectliteValue.unpack (args.getD 0 (.tuple #[]))) Tryz.func76 (by kernel_rfl) (by kernel_rfl) (by kernel_rfl) (by kernel_rfl)
  have h7 := @run_callFunc_extern Tryz.prog 77 _ (ReflectliteValue.methodAny (ReflectliteValue.valueError "reflectlite.Value.Type" 0) (fun t _ _ _ => ReflectliteType.toType t)) Tryz.func77 (by kernel_rfl) (by kernel_rfl) (by kernel_rfl) (by kernel_rfl)
  have h8 := @run_callFunc_extern Tryz.prog 78 _ (ReflectliteValue.method (ReflectliteValue.valueError "reflectlite.Value.IsNil" 0) ReflectliteValue.isNil) Tryz.func78 (by kernel_rfl) (by kernel_rfl) (by kernel_rfl) (by kernel_rfl)
  have h27 := @run_callFunc_extern Tryz.prog 204 _ (ReflectliteType.abiMethod fun t => do pure (.int .u8 (← Rtype.kind t))) Tryz.func204 (by kernel_rfl) (by kernel_rfl) (by kernel_rfl) (by kernel_rfl)
  have h37 := @run_callFunc_extern Tryz.prog 214 _ (ReflectliteType.method ReflectliteType.elem) Tryz.func214 (by kernel_rfl) (by kernel_rfl) (by kernel_rfl) (by kernel_rfl)
  have h38 := @run_callFunc_extern Tryz.prog 215 _ (ReflectliteType.relation "Implements" ReflectliteType.implements_) Tryz.func215 (by kernel_rfl) (by kernel_rfl) (by kernel_rfl) (by kernel_rfl)
  have h10 := @run_callFunc_extern Tryz.prog 104 _ ReflectliteType.typeOf Tryz.func104 (by kernel_rfl) (by kernel_rfl) (by kernel_rfl) (by kernel_rfl)
  have h35 := @run_callFunc_extern Tryz.prog 212 _ (ReflectliteType.relation "AssignableTo" ReflectliteType.assignableTo) Tryz.func212 (by kernel_rfl) (by kernel_rfl) (by kernel_rfl) (by kernel_rfl)
  have h11 := @run_callFunc_extern Tryz.prog 105 _ (ReflectliteValue.method (ReflectliteValue.valueError "reflectlite.Value.Elem" 0) ReflectliteValue.elem) Tryz.func105 (by kernel_rfl) (by kernel_rfl) (by kernel_rfl) (by kernel_rfl)
  have h12 := @run_callFunc_extern Tryz.prog 106 _ ReflectliteValue.set Tryz.func106 (by kernel_rfl) (by kernel_rfl) (by kernel_rfl) (by kernel_rfl)
  have tO := As.typeOfE
  have mA := As.methodAssignableTo
  have aE := As.assignableE
  have vE := As.valueOfE (.int .i64 x) (.int .i64 y)
  have f6 := As.valueOfP
  have f7 := As.typeP
  have mK := As.methodKind
  have mE := As.methodElem
  have mI := As.methodImplements
  have kP := As.kindP
  have kE := As.kindE
  have eP := As.elemP
  have iE := As.implementsE
  have nP := fun a p W h => As.isNilP a p W h
  have kg := World.block_lt_of_cell? _ _ hg
  have kt := lt_block ht
  have hg2 : ((w.alloc (.cells #[.pointer (some ⟨tb, 0, none⟩)] 95)).alloc (.cells #[hdl 95, .pointer (some ⟨w.heap.size, 0, none⟩), .int .u64 150] 117)).cell? ⟨1, 0, none⟩ = some (.iface 144 (.agg #[hdl 46])) := by
    rw [World.cell?_alloc_lt _ _ ⟨1, 0, none⟩ (by simp; omega), World.cell?_alloc_lt _ _ ⟨1, 0, none⟩ kg]; exact hg
  have el := As.elemVP ⟨w.heap.size, 0, none⟩ ⟨tb, 0, none⟩ (((w.alloc (.cells #[.pointer (some ⟨tb, 0, none⟩)] 95)).alloc (.cells #[hdl 95, .pointer (some ⟨w.heap.size, 0, none⟩), .int .u64 150] 117)).alloc (.cells #[hdl 95, .pointer (some ⟨w.heap.size, 0, none⟩), .int .u64 150] 117)) (by
    rw [World.cell?_alloc_lt _ _ ⟨w.heap.size, 0, none⟩ (by simp; omega)]; simp)
  have hn := World.alloc_heap_new (((w.alloc (.cells #[.pointer (some ⟨tb, 0, none⟩)] 95)).alloc (.cells #[hdl 95, .pointer (some ⟨w.heap.size, 0, none⟩), .int .u64 150] 117)).alloc (.cells #[hdl 95, .pointer (some ⟨w.heap.size, 0, none⟩), .int .u64 150] 117)) (.cells #[.int .i64 x, .int .i64 y] 91)
  simp only [World.size_alloc] at hn
  have st := As.setE tb (w.heap.size + 1 + 1 + 1) x y o0 o1 ((((w.alloc (.cells #[.pointer (some ⟨tb, 0, none⟩)] 95)).alloc (.cells #[hdl 95, .pointer (some ⟨w.heap.size, 0, none⟩), .int .u64 150] 117)).alloc (.cells #[hdl 95, .pointer (some ⟨w.heap.size, 0, none⟩), .int .u64 150] 117)).alloc (.cells #[.int .i64 x, .int .i64 y] 91)) (by simp only [World.cell?, hn]; rfl) (by simp only [World.cell?, hn]; rfl)
    (by rw [Below.heap_alloc _ _ _ (by simp; omega), Below.heap_alloc _ _ _ (by simp; omega), Below.heap_alloc _ _ _ (by simp; omega), Below.heap_alloc _ _ _ kt]; exact ht)
  have hfin : ∀ A : World, A = (((((w.alloc (.cells #[.pointer (some ⟨tb, 0, none⟩)] 95)).alloc (.cells #[hdl 95, .pointer (some ⟨w.heap.size, 0, none⟩), .int .u64 150] 117)).alloc (.cells #[hdl 95, .pointer (some ⟨w.heap.size, 0, none⟩), .int .u64 150] 117)).alloc (.cells #[.int .i64 x, .int .i64 y] 91)).setCell ⟨tb, 0, none⟩ (.int .i64 x)).setCell ⟨tb, 1, none⟩ (.int .i64 y) → A.heap[tb]? = some (.cells #[.int .i64 x, .int .i64 y] 91 (0, 0)) ∧ w.grownBy A (some tb) := by
    rintro A rfl
    have h4 : ((((w.alloc (.cells #[.pointer (some ⟨tb, 0, none⟩)] 95)).alloc (.cells #[hdl 95, .pointer (some ⟨w.heap.size, 0, none⟩), .int .u64 150] 117)).alloc (.cells #[hdl 95, .pointer (some ⟨w.heap.size, 0, none⟩), .int .u64 150] 117)).alloc (.cells #[.int .i64 x, .int .i64 y] 91)).heap[tb]? = some (.cells #[o0, o1] 91 (0, 0)) := by
      rw [Below.heap_alloc _ _ _ (by simp; omega), Below.heap_alloc _ _ _ (by simp; omega), Below.heap_alloc _ _ _ (by simp; omega), Below.heap_alloc _ _ _ kt]; exact ht
    exact ⟨cells_set (i := 1) (v := .int .i64 y) (cells_set (i := 0) (v := .int .i64 x) h4), grown_set (grown_set (grown_alloc (grown_alloc (grown_alloc (grown_alloc (World.grownBy.refl _ _) _) _) _) _) _) _⟩
  clear hn ht
  go_enter Tryz.func48, Tryz.ntmps48
  go_wp2
  refine wp_loop_rounds 1 ?_
  rw [rounds_succ]
  go_wp2
  go_ret
  exact ⟨rfl, hfin _ rfl⟩

set_option maxRecDepth 100000 in
theorem told_hit (x y : Int) (w : World) (hg : w.cell? ⟨1, 0, none⟩ = some (.iface 144 (.agg #[hdl 46]))) :
    Calls Tryz.prog 26 #[.iface 91 (.agg #[.int .i64 x, .int .i64 y])] w fun e w' => e = .returned (.tuple #[.int .i64 y, .int .i64 x]) ∧ Below w.heap.size w w' := by
  obtain ⟨W1, hW1⟩ : ∃ W1, W1 = w.alloc (.cells #[.int .i64 0, .int .i64 0] 91) := ⟨_, rfl⟩
  have ht : W1.heap[w.heap.size]? = some (.cells #[.int .i64 0, .int .i64 0] 91 (0, 0)) := by rw [hW1]; exact World.alloc_heap_new w _
  have hB1 : Below w.heap.size w W1 := by rw [hW1]; exact (Below.refl _ w).alloc (Nat.le_refl _) _
  have hg1 := (hB1.cell (World.block_lt_of_cell? _ _ hg)).trans hg
  have K := Lib.hid (as_hit x y w.heap.size _ _ W1 hg1 ht)
  go_enter Tryz.func26, Tryz.ntmps26
  go_wp2_with fail
  rw [← hW1]
  refine K.out.mono ?_
  rintro e w2 ⟨rfl, h2, hG⟩
  have c0 : w2.cell? ⟨w.heap.size, 0, none⟩ = some (.int .i64 x) := by simp [World.cell?, h2]
  have c1 : w2.cell? ⟨w.heap.size, 1, none⟩ = some (.int .i64 y) := by simp [World.cell?, h2]
  have hB2 := below_grown hB1 hG (Nat.le_refl _) hB1.size
  clear K hW1 ht h2
  go_wp2_with fail
  go_quiet (fail)
  go_wp2_with fail
  go_ret2
  exact ⟨rfl, below_drewN hB2 _⟩
theorem told_nil_head (w : World) :
    Calls Tryz.prog 26 #[.nilIface] w fun e w' => e = .returned (.tuple #[.int .i64 0, .int .i64 0]) ∧ Below w.heap.size w w' := by
  have K := Lib.hid fun t W => as_nil t W
  go_enter Tryz.func26, Tryz.ntmps26
  go_wp2_with fail
  refine (K.out _ _).mono ?_
  rintro e w2 ⟨rfl, hw⟩
  replace hw := hw.symm
  subst hw
  go_wp2_with fail
  go_ret2
  exact ⟨rfl, (Below.refl _ _).alloc (Nat.le_refl _) _⟩
end Go.Proofs.YtkfaejnpgdbhlaaGreatDoor
