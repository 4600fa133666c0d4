/-
  The statement NumSums: the sum of two texts is the sum of their sums. Its walk.
-/
import Derived.Test.YtdcgkkfpgpiejaaDoorNumShown
namespace Go.Proofs.YtdcgkkfpgpiejaaDoor
open Go.RowKit

theorem bthen {w w1 w2 : World} (h : Below w.heap.size w w1) (k : Below w1.heap.size w1 w2) : Below w.heap.size w w2 := h.trans (k.mono h.size)
theorem firstB_le (n : Nat) (s : ByteArray) : (firstB n s).size ≤ n := by rw [firstB_size]; omega

set_option maxRecDepth 100000 in
set_option maxHeartbeats 1000000 in
theorem NumSums_law (s t : ByteArray) (hs : s.size ≤ 140737488351232) (ht : t.size ≤ 140737488351232) (w : World) {a1 a2 : Addr} (hE : NumErrs w a1 a2) :
    Calls Tryd.prog 4 #[.string s, .string t] w fun e w' => e = .returned (.bool true) ∧ Below w.heap.size w w' := by
  have h0 := shown_true w hE
  have hsl := firstB_le 1000 s
  have htl := firstB_le 1000 t
  have ha := sumB_append (firstB 1000 s).data.toList (firstB 1000 t).data.toList
  have K1 := fun w => long_any s hs w
  have K2 := fun w => long_any t ht w
  generalize firstB 1000 s = x at *
  generalize firstB 1000 t = y at *
  have hc := fun w2 => run_string_add_sum (P := Tryd.prog) w2 x y (by omega)
  have hxy : (x ++ y).size ≤ 2000 := by rw [ByteArray.size_append]; omega
  have hxyl : (x ++ y).data.toList = x.data.toList ++ y.data.toList := by simp
  have k3 := fun w => Sum_any (x ++ y) (by omega) w
  rw [hxyl, ha] at k3
  generalize x ++ y = z at *
  have hb1 := sumB_le x.data.toList
  have hb2 := sumB_le y.data.toList
  have hlx : x.data.toList.length = x.size := by simp
  have hly : y.data.toList.length = y.size := by simp
  have k4 := fun w => Sum_any x (by omega) w
  have k5 := fun w => Sum_any y (by omega) w
  have k6 : ∀ w, Calls Tryd.prog 13 #[.string ⟨#[]⟩] w fun e w' => e = .returned (.int .u64 0) ∧ Below w.heap.size w w' := fun w => Sum_any ⟨#[]⟩ (by decide) w
  generalize sumB x.data.toList = p at *
  generalize sumB y.data.toList = q at *
  have hp : p ≤ 255000 := by omega
  have hq : q ≤ 255000 := by omega
  have K3 := Lib.hid k3
  have K4 := Lib.hid k4
  have K5 := Lib.hid k5
  have K6 := Lib.hid k6
  have K1 := Lib.hid K1
  have K2 := Lib.hid K2
  clear k3 k4 k5 k6 ha hxyl hb1 hb2 hlx hly hs ht hsl htl hxy
  go_enter Tryd.func4, Tryd.ntmps4
  go_wp2_with fail
  refine h0.mono ?_
  rintro e w1 ⟨rfl, hB1⟩
  go_wp2_with fail
  refine (K1.out _).mono ?_
  rintro e w' ⟨rfl, rfl⟩
  go_wp2_with fail
  refine (K2.out _).mono ?_
  rintro e w' ⟨rfl, rfl⟩
  go_wp2_with fail
  refine (K3.out _).mono ?_
  rintro e w2 ⟨rfl, hB2⟩
  go_wp2_with fail
  refine (K1.out _).mono ?_
  rintro e w' ⟨rfl, rfl⟩
  go_wp2_with fail
  refine (K4.out _).mono ?_
  rintro e w3 ⟨rfl, hB3⟩
  go_wp2_with fail
  refine (K2.out _).mono ?_
  rintro e w' ⟨rfl, rfl⟩
  go_wp2_with fail
  refine (K5.out _).mono ?_
  rintro e w4 ⟨rfl, hB4⟩
  go_wp2_with fail
  refine (K6.out _).mono ?_
  rintro e w5 ⟨rfl, hB5⟩
  go_wp2_with fail
  go_ret
  exact ⟨rfl, bthen (bthen (bthen (bthen hB1 hB2) hB3) hB4) hB5⟩
end Go.Proofs.YtdcgkkfpgpiejaaDoor
