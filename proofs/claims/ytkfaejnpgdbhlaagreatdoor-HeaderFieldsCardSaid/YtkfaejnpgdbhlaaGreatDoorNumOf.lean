/-
  num.of by contract: a base's number and digits for 8, 10 and 16, the error errBase for any other number.
-/
import Derived.Test.YtkfaejnpgdbhlaaGreatDoorNumTold
import Derived.Test.YtkfaejnpgdbhlaaGreatDoorMapKit
import Derived.Maps.OwnSet
import Derived.Maps.OwnOps
import Derived.ChangeAlike
import Derived.Maps.AppendAt
import Derived.RangeFuncBound
namespace Go.Proofs.YtkfaejnpgdbhlaaGreatDoor
open Go.RowKit Go.Maps

/-- The sixteen digits. -/
def digs : ByteArray := ⟨#[48, 49, 50, 51, 52, 53, 54, 55, 56, 57, 97, 98, 99, 100, 101, 102]⟩
def digStr (n : Nat) : ByteArray := digs.extract 0 n

theorem zeroInt (w : World) : (zeroValue 3).run Tryz.prog w = .ok (.int .i64 0) w := by kernel_rfl

abbrev K3 : Keyed Tryz.prog 3 := int_keyed Tryz.underlying3
theorem mk8 : keyOf Tryz.prog 3 (.int .i64 8) = some (.int .i64 8) := keyOf_int_mk Tryz.underlying3 (by decide)
theorem mk10 : keyOf Tryz.prog 3 (.int .i64 10) = some (.int .i64 10) := keyOf_int_mk Tryz.underlying3 (by decide)
theorem mk16 : keyOf Tryz.prog 3 (.int .i64 16) = some (.int .i64 16) := keyOf_int_mk Tryz.underlying3 (by decide)
theorem pe (n : Int) (h : (Lit.int .i64 n).wf = true) : plainElem (H := Unit) Tryz.prog 3 (.int .i64 n) = some (.lit (.int .i64 n), []) := plainElem_int Tryz.underlying3 h

/-- The map of the three bases, as a datum. -/
def basesD : DataW Unit := (((DataW.map []).put (.int .i64 8) (.lit (.int .i64 8))).put (.int .i64 10) (.lit (.int .i64 10))).put (.int .i64 16) (.lit (.int .i64 16))

theorem nl : (3 : Nat) < maxLen := by unfold maxLen; omega


theorem of_facts {w w1 w2 w3 : World} {b : TypeId}
    (h1 : ((w.alloc (.cells #[.int .u64 0, .string ⟨#[]⟩] b)).alloc (Obj.map #[] 0)).grownBy w1 (some (w.heap.size + 1))) (h2 : w1.grownBy w2 (some (w.heap.size + 1))) (h3 : w2.grownBy w3 (some (w.heap.size + 1)))
    : w3.cell? ⟨w.heap.size, 0, none⟩ = some (.int .u64 0) ∧ w3.cell? ⟨w.heap.size, 1, none⟩ = some (.string ⟨#[]⟩) ∧ (∀ o, w3.frozen? ⟨w.heap.size, o, none⟩ = false) ∧ w.heap.size < w3.heap.size ∧ Below w.heap.size w w3 := by
  have s1 := h1.size
  have s2 := h2.size
  have s3 := h3.size
  simp only [World.size_alloc] at s1
  have hb : w3.heap[w.heap.size]? = some (.cells #[.int .u64 0, .string ⟨#[]⟩] b (0, 0)) := by
    rw [h3.block w.heap.size (by omega) (by simp), h2.block w.heap.size (by omega) (by simp), h1.block w.heap.size (by simp; omega) (by simp)]
    rw [Below.heap_alloc _ _ _ (by simp), World.alloc_heap_new]
  refine ⟨?_, ?_, ?_, by omega, ?_⟩
  · simp [World.cell?, hb]
  · simp [World.cell?, hb]
  · intro o; simp [World.frozen?, hb]
  · have b0 := ((Below.refl w.heap.size w).alloc (Nat.le_refl _) (.cells #[.int .u64 0, .string ⟨#[]⟩] b)).alloc (by simp) (Obj.map #[] 0)
    have hk : ∀ k, some (w.heap.size + 1) = some k → w.heap.size ≤ k := fun k e => by cases e; omega
    exact ((b0.grown h1 (by simp; omega) hk).grown h2 (by omega) hk).grown h3 (by omega) hk

set_option maxRecDepth 100000 in
theorem of_ok (n : Int) (hw : (Lit.int .i64 n).wf = true) (c : Int) (h8 : 8 ≤ c) (h16 : c ≤ 16) (hc : basesD.atKey (.int .i64 n) (.lit (.int .i64 0)) = .lit (.int .i64 c)) (hok : has basesD (.int .i64 n) = true) (w : World) :
    Calls Tryz.prog 119 #[.int .i64 n] w fun e w' => e = .returned (.tuple #[.agg #[.int .u64 c, .string (digStr c.toNat)], .nilIface]) ∧ Below w.heap.size w w' := by
  have hmm := @run_makeMap Tryz.prog
  have hm0 := (World.ownsMap_made (w.alloc (.cells #[.int .u64 0, .string ⟨#[]⟩] 172)) Tryz.prog 3 (plainElem (H := Unit) Tryz.prog 3))
  rw [World.size_alloc] at hm0
  go_enter Tryz.func119, Tryz.ntmps119
  go_wp2_with (first
    | (refine wpList_insert_own _ rfl (.tmp 7) (.const (.int .i64 8)) _ 202 rfl 3 3 K3 Tryz.underlying202 _ (w.heap.size + 1) 0 _ rfl hm0 (by have := nl; omega) _ _ _ rfl rfl mk8 _ [] (pe _ (by decide)) ?_; intro w1 hm1 hg1)
    | (refine wpList_insert_own _ rfl (.tmp 7) (.const (.int .i64 10)) _ 202 rfl 3 3 K3 Tryz.underlying202 _ (w.heap.size + 1) 1 _ rfl hm1 (by have := nl; omega) _ _ _ rfl rfl mk10 _ [] (pe _ (by decide)) ?_; intro w2 hm2 hg2)
    | (refine wpList_insert_own _ rfl (.tmp 7) (.const (.int .i64 16)) _ 202 rfl 3 3 K3 Tryz.underlying202 _ (w.heap.size + 1) 2 _ rfl hm2 (by have := nl; omega) _ _ _ rfl rfl mk16 _ [] (pe _ (by decide)) ?_; intro w3 hm3 hg3)
    | (at_lookup; refine wpList_lookup_ok_int_at rfl _ _ 202 rfl 3 3 .i64 K3 Tryz.underlying202 Tryz.underlying3 (zeroInt _) (w.heap.size + 1) 3 _ rfl hm3 _ _ rfl (keyOf_int_mk Tryz.underlying3 hw) _ _ hc hok ?_; have hb3 := of_facts hg1 hg2 hg3; have hcc := hb3.1; have hcd := hb3.2.1; have hf := hb3.2.2.1; have hsz := hb3.2.2.2.1; have hB := hb3.2.2.2.2; clear hm0 hm1 hm2 hm3 hg1 hg2 hg3 hb3))
  exact bodyPost_ret (v := .tuple #[.agg #[.int .u64 c, .string (digStr c.toNat)], .nilIface]) (by simp [results, Tryz.results119, go_sem, hcc, hcd, digStr, digs]) rfl ⟨rfl, (hB.setCell (by simp) _).setCell (by simp) _⟩

set_option maxRecDepth 100000 in
theorem of_bad (n : Int) (hw : (Lit.int .i64 n).wf = true) {a b : Addr} (hc : basesD.atKey (.int .i64 n) (.lit (.int .i64 0)) = .lit (.int .i64 0)) (hok : has basesD (.int .i64 n) = false) (w : World) (hE : NumErrs w a b) :
    Calls Tryz.prog 119 #[.int .i64 n] w fun e w' => e = .returned (.tuple #[.agg #[.int .u64 0, .string ⟨#[]⟩], .iface 252 (.pointer (some a))]) ∧ Below w.heap.size w w' := by
  have hmm := @run_makeMap Tryz.prog
  have hm0 := (World.ownsMap_made (w.alloc (.cells #[.int .u64 0, .string ⟨#[]⟩] 172)) Tryz.prog 3 (plainElem (H := Unit) Tryz.prog 3))
  rw [World.size_alloc] at hm0
  go_enter Tryz.func119, Tryz.ntmps119
  go_wp2_with (first
    | (refine wpList_insert_own _ rfl (.tmp 7) (.const (.int .i64 8)) _ 202 rfl 3 3 K3 Tryz.underlying202 _ (w.heap.size + 1) 0 _ rfl hm0 (by have := nl; omega) _ _ _ rfl rfl mk8 _ [] (pe _ (by decide)) ?_; intro w1 hm1 hg1)
    | (refine wpList_insert_own _ rfl (.tmp 7) (.const (.int .i64 10)) _ 202 rfl 3 3 K3 Tryz.underlying202 _ (w.heap.size + 1) 1 _ rfl hm1 (by have := nl; omega) _ _ _ rfl rfl mk10 _ [] (pe _ (by decide)) ?_; intro w2 hm2 hg2)
    | (refine wpList_insert_own _ rfl (.tmp 7) (.const (.int .i64 16)) _ 202 rfl 3 3 K3 Tryz.underlying202 _ (w.heap.size + 1) 2 _ rfl hm2 (by have := nl; omega) _ _ _ rfl rfl mk16 _ [] (pe _ (by decide)) ?_; intro w3 hm3 hg3)
    | (at_lookup; refine wpList_lookup_ok_int_at rfl _ _ 202 rfl 3 3 .i64 K3 Tryz.underlying202 Tryz.underlying3 (zeroInt _) (w.heap.size + 1) 3 _ rfl hm3 _ _ rfl (keyOf_int_mk Tryz.underlying3 hw) _ _ hc hok ?_; have hb3 := of_facts hg1 hg2 hg3; have hcc := hb3.1; have hcd := hb3.2.1; have hf := hb3.2.2.1; have hsz := hb3.2.2.2.1; have hB := hb3.2.2.2.2; clear hm0 hm1 hm2 hm3 hg1 hg2 hg3 hb3))
  have hE3 := (hE.below hB).base
  have hlt := World.block_lt_of_cell? _ _ hE.base
  have hn1 : ¬ w.heap.size = 2 := fun e => by simp at hlt; omega
  have hn2 : ¬ 2 = w.heap.size := fun e => hn1 e.symm
  go_region
  all_goals go_wp2
  all_goals exact bodyPost_ret (v := .tuple #[.agg #[.int .u64 0, .string ⟨#[]⟩], .iface 252 (.pointer (some a))]) (by simp [results, Tryz.results119, go_sem, hcc, hcd]) rfl ⟨rfl, ((hB.setCell (by simp) _).setCell (by simp) _).drew⟩

theorem basesD_eq : basesD = .map [(.int .i64 8, .lit (.int .i64 8)), (.int .i64 10, .lit (.int .i64 10)), (.int .i64 16, .lit (.int .i64 16))] := by rfl

/-- num.of at one of the three bases. -/
theorem of_base (n : Int) (h : n = 8 ∨ n = 10 ∨ n = 16) (w : World) :
    Calls Tryz.prog 119 #[.int .i64 n] w fun e w' => e = .returned (.tuple #[.agg #[.int .u64 n, .string (digStr n.toNat)], .nilIface]) ∧ Below w.heap.size w w' := by
  rcases h with rfl | rfl | rfl
  · exact of_ok 8 (by decide) 8 (by decide) (by decide) (by rfl) (by rfl) w
  · exact of_ok 10 (by decide) 10 (by decide) (by decide) (by rfl) (by rfl) w
  · exact of_ok 16 (by decide) 16 (by decide) (by decide) (by rfl) (by rfl) w

/-- num.of at any other number. -/
theorem of_none (n : Int) (hw : (Lit.int .i64 n).wf = true) (h8 : n ≠ 8) (h10 : n ≠ 10) (h16 : n ≠ 16) {a b : Addr} (w : World) (hE : NumErrs w a b) :
    Calls Tryz.prog 119 #[.int .i64 n] w fun e w' => e = .returned (.tuple #[.agg #[.int .u64 0, .string ⟨#[]⟩], .iface 252 (.pointer (some a))]) ∧ Below w.heap.size w w' := by
  refine of_bad n hw ?_ ?_ w hE
  · rw [basesD_eq]; simp [DataW.atKey, Lit.sameKey, Ne.symm h8, Ne.symm h10, Ne.symm h16]
  · rw [basesD_eq, has_eq]; simp [Lit.sameKey, Ne.symm h8, Ne.symm h10, Ne.symm h16]
end Go.Proofs.YtkfaejnpgdbhlaaGreatDoor
