/-
  header's table of fields: fill's function for sync.Once, and fill, by contract.
-/
import Derived.Test.YtkfaejnpgdbhlaaGreatDoorGrown
import Derived.Test.YtkfaejnpgdbhlaaGreatDoorOnce
import Derived.Test.YtkfaejnpgdbhlaaGreatDoorHeadMath
namespace Go.Proofs.YtkfaejnpgdbhlaaGreatDoor
open Go.RowKit

def widRow : Obj := .cells (wids.map fun n : Nat => Value.int .i64 (n : Int)).toArray 3 (0, 0)

theorem lt16 {P : Nat → Prop} {k : Nat} (hk : k < 16) (h : P 0 ∧ P 1 ∧ P 2 ∧ P 3 ∧ P 4 ∧ P 5 ∧ P 6 ∧ P 7 ∧ P 8 ∧ P 9 ∧ P 10 ∧ P 11 ∧ P 12 ∧ P 13 ∧ P 14 ∧ P 15) : P k := by
  obtain ⟨h0, h1, h2, h3, h4, h5, h6, h7, h8, h9, h10, h11, h12, h13, h14, h15⟩ := h
  obtain rfl | rfl | rfl | rfl | rfl | rfl | rfl | rfl | rfl | rfl | rfl | rfl | rfl | rfl | rfl | rfl : k = 0 ∨ k = 1 ∨ k = 2 ∨ k = 3 ∨ k = 4 ∨ k = 5 ∨ k = 6 ∨ k = 7 ∨ k = 8 ∨ k = 9 ∨ k = 10 ∨ k = 11 ∨ k = 12 ∨ k = 13 ∨ k = 14 ∨ k = 15 := by omega
  all_goals assumption
theorem wid_at {k : Nat} (hk : k < 16) : (wids.map fun n : Nat => Value.int .i64 (n : Int)).toArray[k]? = some (.int .i64 (wids.getD k 0 : Nat)) :=
  lt16 (P := fun k => (wids.map fun n : Nat => Value.int .i64 (n : Int)).toArray[k]? = some (.int .i64 (wids.getD k 0 : Nat))) hk ⟨rfl, rfl, rfl, rfl, rfl, rfl, rfl, rfl, rfl, rfl, rfl, rfl, rfl, rfl, rfl, rfl⟩
/-- The table's numbers: the first k fields known. -/
def tabN (k : Nat) : List Nat := (List.range 16).flatMap fun j => if j < k then [offOf j, wids.getD j 0] else [0, 0]
/-- The table's cells. -/
def tabC (d m : Int) (k : Nat) : Array Value := (Value.int .u32 d :: Value.int .i32 m :: Value.int .u32 0 :: (tabN k).map fun n : Nat => Value.int .i64 (n : Int)).toArray
/-- The table's block. -/
def TabCells (d m : Int) (k : Nat) : Obj := .cells (tabC d m k) 76 (0, 0)
theorem tabN_set {k : Nat} (hk : k < 16) : ((tabN k).set (k * 2) (offOf k)).set (k * 2 + 1) (wids.getD k 0) = tabN (k + 1) :=
  lt16 (P := fun k => ((tabN k).set (k * 2) (offOf k)).set (k * 2 + 1) (wids.getD k 0) = tabN (k + 1)) hk (by decide)
theorem tab_set (d m : Int) {k : Nat} (hk : k < 16) : ((tabC d m k).setIfInBounds (3 + k * 2) (.int .i64 (offOf k : Nat))).setIfInBounds (3 + k * 2 + 1) (.int .i64 (wids.getD k 0 : Nat)) = tabC d m (k + 1) := by
  rw [tabC, tabC, ← tabN_set hk, List.map_set, List.map_set, List.setIfInBounds_toArray, List.setIfInBounds_toArray, show 3 + k * 2 = k * 2 + 1 + 1 + 1 by omega]
  simp only [List.set_cons_succ]
theorem tab_old (d m : Int) {k : Nat} (hk : k < 16) : (tabC d m k)[3 + k * 2]? = some (.int .i64 0) ∧ (tabC d m k)[3 + k * 2 + 1]? = some (.int .i64 0) := by
  have h := lt16 (P := fun k => (tabN k)[k * 2]? = some 0 ∧ (tabN k)[k * 2 + 1]? = some 0) hk (by decide)
  rw [tabC, show 3 + k * 2 = k * 2 + 1 + 1 + 1 by omega]
  simp only [List.getElem?_toArray, List.getElem?_cons_succ, List.getElem?_map, h]
  exact ⟨rfl, rfl⟩
theorem tab_new (d m : Int) {k : Nat} (hk : k < 16) : (tabC d m 16)[3 + k * 2]? = some (.int .i64 (offOf k : Nat)) ∧ (tabC d m 16)[3 + k * 2 + 1]? = some (.int .i64 (wids.getD k 0 : Nat)) := by
  have h := lt16 (P := fun k => (tabN 16)[k * 2]? = some (offOf k) ∧ (tabN 16)[k * 2 + 1]? = some (wids.getD k 0)) hk (by decide)
  rw [tabC, show 3 + k * 2 = k * 2 + 1 + 1 + 1 by omega]
  simp only [List.getElem?_toArray, List.getElem?_cons_succ, List.getElem?_map, h]
  exact ⟨rfl, rfl⟩
theorem off_next {k : Nat} (hk : k < 16) : offOf (k + 1) = offOf k + wids.getD k 0 :=
  lt16 (P := fun k => offOf (k + 1) = offOf k + wids.getD k 0) hk ⟨rfl, rfl, rfl, rfl, rfl, rfl, rfl, rfl, rfl, rfl, rfl, rfl, rfl, rfl, rfl, rfl⟩
theorem off_small {k : Nat} (hk : k < 16) : offOf k + wids.getD k 0 ≤ 512 :=
  lt16 (P := fun k => offOf k + wids.getD k 0 ≤ 512) hk (by decide)

set_option maxRecDepth 100000 in
theorem tab_fn (tb q : Nat) (hne : q ≠ tb) (W : World) (hp : W.heap[tb]? = some (TabCells 0 1 0)) (hq : W.heap[q]? = some (.cells #[.pointer (some ⟨tb, 0, none⟩)] 59 (0, 0))) :
    Calls Tryz.prog 58 #[.pointer (some ⟨q, 0, none⟩)] W fun e W' => e = .returned (.tuple #[]) ∧ W'.heap[tb]? = some (TabCells 0 1 16) ∧ W.grownBy W' (some tb) := by
  have cq := cell_of_one hq
  have kp := lt_block hp
  have kq := lt_block hq
  go_enter Tryz.func58, Tryz.ntmps58
  go_wp2
  have ktq : tb ≠ W.heap.size := by omega
  go_loopw [1, 6] (fun f i wr => ∃ k : Nat, k ≤ 16 ∧ i = .int .i64 k ∧ f = .int .i64 (offOf k : Nat) ∧ wr.heap[tb]? = some (TabCells 0 1 k) ∧ wr.heap[W.heap.size]? = some widRow ∧ wr.heap[q]? = some (.cells #[.pointer (some ⟨tb, 0, none⟩)] 59 (0, 0)) ∧ W.grownBy wr (some tb))
    (fun _ i _ => 16 - (intOf i).toNat)
  case atStart => exact ⟨0, by omega, rfl, rfl, (Below.heap_alloc _ _ _ kp).trans hp, World.alloc_heap_new _ _, (Below.heap_alloc _ _ _ kq).trans hq, grown_alloc (World.grownBy.refl _ _) _⟩
  case round =>
    obtain ⟨k, hk, rfl, rfl, h1, h2, h3, hG⟩ := hrel
    by_cases hlt : k < 16
    · have c1 := cell_of_one h3
      have cw : wr.cell? ⟨W.heap.size, k, none⟩ = some (.int .i64 (wids.getD k 0 : Nat)) := by
        have := wid_at hlt
        simp only [World.cell?, h2, widRow, this]; rfl
      have ct : wr.cell? ⟨tb, 3 + k * 2, none⟩ = some (.int .i64 0) := by
        have := (tab_old 0 1 hlt).1
        simp only [World.cell?, h1, TabCells, this]; rfl
      have ct2 : wr.cell? ⟨tb, 3 + k * 2 + 1, none⟩ = some (.int .i64 0) := by
        have := (tab_old 0 1 hlt).2
        simp only [World.cell?, h1, TabCells, this]; rfl
      have f1 : ∀ j, wr.frozen? ⟨tb, j, none⟩ = false := fun j => by simp [World.frozen?, h1, TabCells]
      have b1 : (k : Int) < 16 := by omega
      have b2 : (0 : Int) ≤ k := by omega
      have hof := off_small hlt
      have hnx := Lib.hid (off_next hlt)
      have hst := Lib.hid (tab_set 0 1 hlt)
      generalize wids.getD k 0 = n at *
      go_wp2
      refine ⟨⟨k + 1, by omega, by go_num, by rw [hnx.out]; go_num, ?_, ?_, ?_, ?_⟩, by simp [intOf]; omega⟩
      · have := cells_set (i := 3 + k * 2 + 1) (v := .int .i64 n) (cells_set (i := 3 + k * 2) (v := .int .i64 (offOf k : Nat)) h1)
        rwa [hst.out] at this
      · exact (Below.heap_setCell _ _ _ _ (by simp; omega)).trans ((Below.heap_setCell _ _ _ _ (by simp; omega)).trans h2)
      · exact (Below.heap_setCell _ _ _ _ (by simpa using hne)).trans ((Below.heap_setCell _ _ _ _ (by simpa using hne)).trans h3)
      · exact grown_set (grown_set hG _) _
    · obtain rfl : k = 16 := by omega
      go_wp2
      go_end0
      exact ⟨rfl, h1, hG⟩
end Go.Proofs.YtkfaejnpgdbhlaaGreatDoor
