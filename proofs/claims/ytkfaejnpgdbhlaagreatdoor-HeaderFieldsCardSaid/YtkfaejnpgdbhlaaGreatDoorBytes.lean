/-
  The conversion of a string into a slice of bytes, as the walks use it: a new block that holds the bytes.
-/
import Derived.Test.YtkfaejnpgdbhlaaGreatDoorChecked
import Derived.WalkKit
import Derived.Laws.IdiomStrings
namespace Go.Proofs.YtkfaejnpgdbhlaaGreatDoor
open Go.RowKit

theorem bytes_conv (s : ByteArray) (w : World) : ∃ (cap : Nat) (row : Array Value) (m : Nat × Nat),
    (convert 9 35 (.string s)).run Tryz.prog w = .ok (.slice (some ⟨w.heap.size, 0, none⟩) s.size cap) (w.drew.alloc (.cells row 5 m)) ∧
    ∀ i, (h : i < s.size) → (w.alloc (.cells row 5 m)).cell? ⟨w.heap.size, i, none⟩ = some (.int .u8 s[i].toNat) := by
  refine ⟨_, _, _, run_bytes_of_string w 9 35 5 s Tryz.underlying9 Tryz.underlying35 Tryz.underlying5, fun i h => ?_⟩
  rw [World.cell?_alloc_mark]
  simp only [bytesRow]
  rw [Array.getElem?_append_left (by simpa using h)]
  simp
  exact ⟨s[i], by simp [ByteArray.getElem_eq_getElem_data, Array.getElem?_eq_getElem (show i < s.data.size from h)], rfl⟩
end Go.Proofs.YtkfaejnpgdbhlaaGreatDoor
