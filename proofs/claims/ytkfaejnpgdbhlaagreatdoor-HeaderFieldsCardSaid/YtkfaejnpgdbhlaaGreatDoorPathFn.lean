/-
  path's isNot, its function for sync.Once by contract.
-/
import Derived.Test.YtkfaejnpgdbhlaaGreatDoorGrown
import Derived.Test.YtkfaejnpgdbhlaaGreatDoorOnce
namespace Go.Proofs.YtkfaejnpgdbhlaaGreatDoor
open Go.RowKit

/-- A path's block. -/
def PathCells (s : ByteArray) (d m : Int) (v : Value) : Obj := .cells #[.string s, .int .u32 d, .int .i32 m, .int .u32 0, v] 163 (0, 0)
/-- What a part may not be, in a row. -/
def notRow : Obj := .cells #[.string ⟨#[]⟩, .string ⟨#[46]⟩, .string ⟨#[46, 46]⟩] 9 (0, 0)

set_option maxRecDepth 100000 in
theorem not_fn (pb q : Nat) (s : ByteArray) (W : World) (hp : W.heap[pb]? = some (PathCells s 0 1 (.slice none 0 0))) (hq : W.heap[q]? = some (.cells #[.pointer (some ⟨pb, 0, none⟩)] 130 (0, 0))) :
    Calls Tryz.prog 137 #[.pointer (some ⟨q, 0, none⟩)] W fun e W' => e = .returned (.tuple #[]) ∧
      (∃ g, W'.heap[pb]? = some (PathCells s 0 1 (.slice (some ⟨g, 0, none⟩) 3 3)) ∧ W'.heap[g]? = some notRow ∧ W.heap.size ≤ g) ∧ W.grownBy W' (some pb) := by
  have cq := cell_of_one hq
  have cp : W.cell? ⟨pb, 4, none⟩ = some (.slice none 0 0) := by simp [World.cell?, hp, PathCells]
  have fp : W.frozen? ⟨pb, 4, none⟩ = false := by simp [World.frozen?, hp, PathCells]
  have kp := (Array.getElem?_eq_some_iff.1 hp).1
  go_enter Tryz.func137, Tryz.ntmps137
  go_wp2
  go_end0
  refine ⟨rfl, ⟨W.heap.size, ?_, ?_, Nat.le_refl _⟩, grown_alloc (grown_set (World.grownBy.refl _ _) _) _⟩
  · exact (Below.heap_alloc _ _ _ (by simpa [World.setCell] using kp)).trans (cells_set hp)
  · have := World.alloc_heap_new (W.setCell ⟨pb, 4, none⟩ (.slice (some ⟨W.heap.size, 0, none⟩) 3 3)) notRow
    rwa [show (W.setCell ⟨pb, 4, none⟩ (.slice (some ⟨W.heap.size, 0, none⟩) 3 3)).heap.size = W.heap.size by simp [World.setCell]] at this
end Go.Proofs.YtkfaejnpgdbhlaaGreatDoor
