/-
  The statement NumFields: octal fields, and numbers of them, sums of bytes, as the reference has them. Its walk.
-/
import Derived.Test.YtdcgkkfpgpiejaaDoorNumCodes
import Derived.Test.YtdcgkkfpgpiejaaDoorRefField
namespace Go.Proofs.YtdcgkkfpgpiejaaDoor
open Go.RowKit

set_option maxRecDepth 100000 in
set_option maxHeartbeats 1000000 in
/-- Where both answer alike, the statement holds. -/
theorem fields_same (k n : Int) (s t u p : ByteArray) (e c g q : Int) (w : World) {a1 a2 : Addr} (hE : NumErrs w a1 a2)
    (h0 : Calls Tryd.prog 11 #[] w fun e w' => e = .returned (.bool true) ∧ Below w.heap.size w w')
    (K0 : Hid (∀ w, Calls Tryd.prog 19 #[.string s] w fun e w' => e = .returned (.string t) ∧ w = w'))
    (KL : Hid (∀ w, Calls Tryd.prog 14 #[.string s] w fun e w' => e = .returned (.string u) ∧ w = w'))
    (K1 : Hid (∀ w, NumErrs w a1 a2 → Calls Tryd.prog 16 #[.int .i64 k, .int .u64 n] w fun x w' => x = .returned (.tuple #[.string p, .int .i64 e]) ∧ Below w.heap.size w w'))
    (K2 : Hid (∀ w, Calls Tryd.prog 17 #[.int .i64 k, .int .u64 n] w fun x w' => x = .returned (.tuple #[.string p, .int .i64 e]) ∧ Below w.heap.size w w'))
    (K3 : Hid (∀ w, NumErrs w a1 a2 → Calls Tryd.prog 18 #[.string t] w fun x w' => x = .returned (.tuple #[.int .u64 c, .int .i64 g]) ∧ Below w.heap.size w w'))
    (K4 : Hid (∀ w, Calls Tryd.prog 20 #[.string t] w fun x w' => x = .returned (.tuple #[.int .u64 c, .int .i64 g]) ∧ w = w'))
    (K5 : Hid (∀ w, Calls Tryd.prog 13 #[.string u] w fun x w' => x = .returned (.int .u64 q) ∧ Below w.heap.size w w'))
    (K6 : Hid (∀ w, Calls Tryd.prog 21 #[.string u] w fun x w' => x = .returned (.int .u64 q) ∧ w = w')) :
    Calls Tryd.prog 6 #[.int .i64 k, .int .u64 n, .string s] w fun e w' => e = .returned (.bool true) ∧ Below w.heap.size w w' := by
  go_enter Tryd.func6, Tryd.ntmps6
  go_wp2_with fail
  refine h0.mono ?_
  rintro x w1 ⟨rfl, hB1⟩
  have hE1 := hE.below hB1
  clear h0
  go_wp2_with fail
  refine (K1.out _ hE1).mono ?_
  rintro x w2 ⟨rfl, hB2⟩
  have hE2 := hE1.below hB2
  go_wp2_with fail
  refine (K2.out _).mono ?_
  rintro x w3 ⟨rfl, hB3⟩
  have hE3 := hE2.below hB3
  go_wp2_with fail
  refine (K0.out _).mono ?_
  rintro x w' ⟨rfl, rfl⟩
  go_wp2_with fail
  refine (K3.out _ hE3).mono ?_
  rintro x w4 ⟨rfl, hB4⟩
  go_wp2_with fail
  refine (K0.out _).mono ?_
  rintro x w' ⟨rfl, rfl⟩
  go_wp2_with fail
  refine (K4.out _).mono ?_
  rintro x w' ⟨rfl, rfl⟩
  go_wp2_with fail
  refine (KL.out _).mono ?_
  rintro x w' ⟨rfl, rfl⟩
  go_wp2_with fail
  refine (K5.out _).mono ?_
  rintro x w5 ⟨rfl, hB5⟩
  go_wp2_with fail
  refine (KL.out _).mono ?_
  rintro x w' ⟨rfl, rfl⟩
  go_wp2_with fail
  refine (K6.out _).mono ?_
  rintro x w' ⟨rfl, rfl⟩
  go_wp2_with fail
  go_ret
  exact ⟨rfl, bthen (bthen (bthen (bthen hB1 hB2) hB3) hB4) hB5⟩

theorem NumFields_law (k n : Int) (s : ByteArray) (_ : (Lit.int .i64 k).wf = true) (hn : (Lit.int .u64 n).wf = true) (hs : s.size ≤ 140737488351232) (w : World) {a1 a2 : Addr} (hE : NumErrs w a1 a2) :
    Calls Tryd.prog 6 #[.int .i64 k, .int .u64 n, .string s] w fun e w' => e = .returned (.bool true) ∧ Below w.heap.size w w' := by
  obtain ⟨n, rfl, hn'⟩ := u64_nat hn
  have ht : (firstB 50 s).size ≤ 140737488351232 := by have := firstB_le 50 s; omega
  have hu : (firstB 1000 s).size ≤ 140737488351232 := by have := firstB_le 1000 s; omega
  have h0 := shown_true w hE
  have K0 := Lib.hid fun w => cut_any s hs w
  have KL := Lib.hid fun w => long_any s hs w
  obtain ⟨c, g, h2⟩ := getRes_pair (readL (firstB 50 s).data.toList)
  have K3 : Hid (∀ w, NumErrs w a1 a2 → Calls Tryd.prog 18 #[.string (firstB 50 s)] w fun x w' => x = .returned (.tuple #[.int .u64 c, .int .i64 g]) ∧ Below w.heap.size w w') := by
    rw [← h2]; exact Lib.hid fun w h => Read_any _ ht w h
  have K4 : Hid (∀ w, Calls Tryd.prog 20 #[.string (firstB 50 s)] w fun x w' => x = .returned (.tuple #[.int .u64 c, .int .i64 g]) ∧ w = w') := by
    rw [← h2]; exact Lib.hid fun w => ref_Read_any _ ht w
  have K5 := Lib.hid fun w => Sum_any _ hu w
  have K6 := Lib.hid fun w => ref_Sum_any _ hu w
  by_cases hk : k < 1 ∨ 20 < k
  · exact fields_same k n s _ _ _ _ c g _ w hE h0 K0 KL (Lib.hid fun w h => Field_bad k hk n hn' w h) (Lib.hid fun w => same_calls (ref_Field_bad k hk n w)) K3 K4 K5 K6
  obtain ⟨k, rfl⟩ := Int.eq_ofNat_of_zero_le (show 0 ≤ k by omega)
  by_cases hl : k < (putL 8 n).length
  · exact fields_same k n s _ _ _ _ c g _ w hE h0 K0 KL (Lib.hid fun w h => Field_num k (by omega) n hn' hl w h) (Lib.hid fun w => ref_Field_num k (by omega) n hn' hl w) K3 K4 K5 K6
  · exact fields_same k n s _ _ _ _ c g _ w hE h0 K0 KL (Lib.hid fun w _ => Field_ok k (by omega) n hn' (by omega) w) (Lib.hid fun w => ref_Field_ok k (by omega) n hn' (by omega) w) K3 K4 K5 K6
end Go.Proofs.YtdcgkkfpgpiejaaDoor
