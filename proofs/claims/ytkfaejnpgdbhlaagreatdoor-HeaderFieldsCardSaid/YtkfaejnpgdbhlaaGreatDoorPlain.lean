/-
  Plain facts on lists of bytes and on numbers, for the walks over package num; no program in sight.
-/
import Derived.WalkKit
import Derived.Lib.Hide
namespace Go.Proofs.YtkfaejnpgdbhlaaGreatDoor
open Go.RowKit

theorem ret_int {k : IntKind} {a b : Int} (h : a = b) : Ending.returned (.int k a) = .returned (.int k b) := by rw [h]

/-- The sum of bytes. -/
def sumB : List UInt8 → Nat
  | [] => 0
  | c :: r => c.toNat + sumB r

theorem sumB_append (a b : List UInt8) : sumB (a ++ b) = sumB a + sumB b := by
  induction a with
  | nil => simp [sumB]
  | cons c r ih => simp [sumB, ih]; omega

theorem sumB_le (l : List UInt8) : sumB l ≤ 255 * l.length := by
  induction l with
  | nil => simp [sumB]
  | cons c r ih => have := c.toNat_lt; simp [sumB]; omega

theorem take_snoc (s : ByteArray) (k : Nat) (h : k < s.size) : s.data.toList.take (k + 1) = s.data.toList.take k ++ [s[k]] := by
  rw [List.take_succ_eq_append_getElem (by simpa using h)]; rfl

theorem sumB_take (s : ByteArray) (k : Nat) (h : k < s.size) : sumB (s.data.toList.take (k + 1)) = sumB (s.data.toList.take k) + s[k].toNat := by
  rw [take_snoc s k h, sumB_append]; simp [sumB]
end Go.Proofs.YtkfaejnpgdbhlaaGreatDoor
