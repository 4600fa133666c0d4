/-
  strings.SplitSeq at '/': what it hands back, and the blocks that it lays.
-/
import Derived.Test.YtkfaejnpgdbhlaaGreatDoorSplit
import Derived.Test.YtkfaejnpgdbhlaaGreatDoorNest
namespace Go.Proofs.YtkfaejnpgdbhlaaGreatDoor
open Go.RowKit

theorem splitSeq_any (s : ByteArray) (w : World) :
    Calls Tryz.prog 157 #[.string s, .string ⟨#[47]⟩, .int .i64 0] w fun e w' =>
      e = .returned (.func (.func 172) #[] #[.pointer (some ⟨w.heap.size + 1, 0, none⟩), .pointer (some ⟨w.heap.size, 0, none⟩), .pointer (some ⟨w.heap.size + 1 + 1, 0, none⟩)]) ∧
      ((w.alloc (.cells #[.string s] 9)).alloc (.cells #[.string ⟨#[47]⟩] 9)).alloc (.cells #[.int .i64 0] 3) = w' := by
  go_enter Tryz.func157, Tryz.ntmps157
  go_wp2
  go_ret
  exact ⟨rfl, rfl⟩

/-- SplitSeq lays three blocks; the iterator leans on them. -/
theorem SplitSeq_any (s : ByteArray) (w : World) :
    Calls Tryz.prog 136 #[.string s, .string ⟨#[47]⟩] w fun e w' =>
      e = .returned (.func (.func 172) #[] #[.pointer (some ⟨w.heap.size + 1, 0, none⟩), .pointer (some ⟨w.heap.size, 0, none⟩), .pointer (some ⟨w.heap.size + 1 + 1, 0, none⟩)]) ∧
      SplitAt w' (w.heap.size + 1) w.heap.size (w.heap.size + 1 + 1) s ∧ Below w.heap.size w w' ∧ w'.heap.size = w.heap.size + 1 + 1 + 1 := by
  have K := Lib.hid (splitSeq_any s w)
  go_enter Tryz.func136, Tryz.ntmps136
  go_wp2_with fail
  refine K.out.mono ?_
  rintro e w' ⟨rfl, hw⟩
  go_wp2_with fail
  go_ret
  subst hw
  refine ⟨rfl, ⟨?_, ?_, ?_⟩, (((Below.refl _ w).alloc (Nat.le_refl _) _).alloc (by simp) _).alloc (by simp; omega) _, by simp⟩
  · rw [Below.heap_alloc _ _ _ (by simp)]
    have := World.alloc_heap_new (w.alloc (.cells #[.string s] 9)) (.cells #[.string ⟨#[47]⟩] 9)
    rwa [World.size_alloc] at this
  · rw [Below.heap_alloc _ _ _ (by simp; omega), Below.heap_alloc _ _ _ (by simp)]
    exact World.alloc_heap_new w _
  · have := World.alloc_heap_new ((w.alloc (.cells #[.string s] 9)).alloc (.cells #[.string ⟨#[47]⟩] 9)) (.cells #[.int .i64 0] 3)
    simpa using this
end Go.Proofs.YtkfaejnpgdbhlaaGreatDoor
