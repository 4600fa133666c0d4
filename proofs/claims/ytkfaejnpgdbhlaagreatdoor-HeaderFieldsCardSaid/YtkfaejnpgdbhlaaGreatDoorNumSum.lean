/-
  num.Sum by contract: the sum of a text's bytes, for every text that can stand in memory.
-/
import Derived.Test.YtkfaejnpgdbhlaaGreatDoorPlain
import Derived.Test.YtkfaejnpgdbhlaaGreatDoorBytes
namespace Go.Proofs.YtkfaejnpgdbhlaaGreatDoor
open Go.RowKit

set_option maxHeartbeats 400000 in
theorem Sum_any (s : ByteArray) (hs : s.size ≤ 140737488351232) (w : World) :
    Calls Tryz.prog 60 #[.string s] w fun e w' => e = .returned (.int .u64 (sumB s.data.toList)) ∧ Below w.heap.size w w' := by
  obtain ⟨cap, row, m, hrun, hcell⟩ := bytes_conv s w
  go_enter Tryz.func60, Tryz.ntmps60
  go_wp2
  clear hrun
  go_loop [3, 5, 9] (fun n _ i => ∃ k : Nat, k ≤ s.size ∧ i = .int .i64 k ∧ n = .int .u64 (sumB (s.data.toList.take k))) (fun _ _ i => s.size - (intOf i).toNat)
  case atStart => exact ⟨0, Nat.zero_le _, rfl, rfl⟩
  case round =>
    obtain ⟨k, hk, rfl, rfl⟩ := hrel
    by_cases hlt : k < s.size
    · have hc := hcell k hlt
      have hb := sumB_le (s.data.toList.take k)
      have hl : (s.data.toList.take k).length ≤ k := List.length_take_le _ _
      have hc2 := s[k].toNat_lt
      have HS := Lib.hid (sumB_take s k hlt)
      clear hcell
      go_wp2
      go_round
      case rel => exact ⟨k + 1, by omega, by go_num, by rw [HS.out]; go_num⟩
      case measure => simp [intOf]; omega
    · have hE : Hid (s.data.toList.take k = s.data.toList) := List.take_of_length_le (by simp; omega)
      go_wp2
      go_ret
      exact ⟨by rw [hE.out]; rfl, ((Below.refl _ _).alloc (Nat.le_refl _) _).drew⟩
end Go.Proofs.YtkfaejnpgdbhlaaGreatDoor
