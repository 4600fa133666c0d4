/-
  The statement NumShort: a field of a width, and one more 0 ahead, tell the same number. Its walk.
-/
import Derived.Test.YtdcgkkfpgpiejaaDoorNumDigits
namespace Go.Proofs.YtdcgkkfpgpiejaaDoor
open Go.RowKit

theorem fieldL_len {k n : Nat} (hl : (putL 8 n).length ≤ k) : (fieldL k n).length = k := by
  unfold fieldL
  rw [List.length_append, List.length_replicate]; omega
theorem read_field {k n : Nat} (hk : k ≤ 20) (hn : n < 18446744073709551616) (hl : (putL 8 n).length ≤ k) : readL (fieldL k n) = some n := by
  unfold readL
  rw [if_pos (by rw [fieldL_len hl]; exact hk)]
  exact get_zeros (by omega) (by omega) _ n hn
theorem fieldL_more {k n : Nat} (hl : (putL 8 n).length ≤ k) : fieldL (k + 1) n = 48 :: fieldL k n := by
  unfold fieldL
  rw [show k + 1 - (putL 8 n).length = (k - (putL 8 n).length) + 1 by omega, List.replicate_succ]; rfl

set_option maxRecDepth 100000 in
theorem short_bad (k : Int) (hk : k < 1 ∨ 19 < k) (n : Int) (w : World) {a1 a2 : Addr} (hE : NumErrs w a1 a2) :
    Calls Tryd.prog 8 #[.int .i64 k, .int .u64 n] w fun e w' => e = .returned (.bool true) ∧ Below w.heap.size w w' := by
  have h0 := shown_true w hE
  rcases hk with hk | hk
  · go_enter Tryd.func8, Tryd.ntmps8
    go_wp2_with fail
    refine h0.mono ?_
    rintro e w1 ⟨rfl, hB1⟩
    go_wp2_with fail
    go_ret
    exact ⟨rfl, hB1⟩
  · have hk1 : ¬ k < 1 := by omega
    go_enter Tryd.func8, Tryd.ntmps8
    go_wp2_with fail
    refine h0.mono ?_
    rintro e w1 ⟨rfl, hB1⟩
    go_wp2_with fail
    go_ret
    exact ⟨rfl, hB1⟩

set_option maxRecDepth 100000 in
set_option maxHeartbeats 1000000 in
theorem short_num (k : Nat) (hk : 1 ≤ k ∧ k ≤ 19) (n : Nat) (hn : n < 18446744073709551616) (hl : k < (putL 8 n).length) (w : World) {a1 a2 : Addr} (hE : NumErrs w a1 a2) :
    Calls Tryd.prog 8 #[.int .i64 k, .int .u64 n] w fun e w' => e = .returned (.bool true) ∧ Below w.heap.size w w' := by
  have h0 := shown_true w hE
  have K1 := Lib.hid fun w (h : NumErrs w a1 a2) => Field_num k (by omega) n hn hl w h
  have hk1 : ¬ (k : Int) < 1 := by omega
  have hk2 : ¬ (19 : Int) < k := by omega
  have K2 : Hid (∀ w, NumErrs w a1 a2 → Calls Tryd.prog 16 #[.int .i64 ((k : Int) + 1), .int .u64 n] w fun e w' => (∃ s c, e = .returned (.tuple #[.string s, .int .i64 c])) ∧ Below w.heap.size w w') := by
    refine Lib.hid fun w h => ?_
    by_cases hl2 : k + 1 < (putL 8 n).length
    · exact (Field_num (k + 1) (by omega) n hn hl2 w h).mono fun e w' he => ⟨⟨_, _, he.1⟩, he.2⟩
    · exact (Field_ok (k + 1) (by omega) n hn (by omega) w).mono fun e w' he => ⟨⟨_, _, he.1⟩, he.2⟩
  clear hn hl
  go_enter Tryd.func8, Tryd.ntmps8
  go_wp2_with fail
  refine h0.mono ?_
  rintro e w1 ⟨rfl, hB1⟩
  have hE1 := hE.below hB1
  go_wp2_with fail
  refine (K1.out _ hE1).mono ?_
  rintro e w2 ⟨rfl, hB2⟩
  have hE2 := hE1.below hB2
  go_wp2_with fail
  refine (K2.out _ hE2).mono ?_
  rintro e w3 ⟨⟨s, c, rfl⟩, hB3⟩
  go_wp2_with fail
  go_ret
  exact ⟨rfl, bthen (bthen hB1 hB2) hB3⟩

set_option maxRecDepth 100000 in
set_option maxHeartbeats 1000000 in
theorem short_ok (k : Nat) (hk : 1 ≤ k ∧ k ≤ 19) (n : Nat) (hn : n < 18446744073709551616) (hl : (putL 8 n).length ≤ k) (w : World) {a1 a2 : Addr} (hE : NumErrs w a1 a2) :
    Calls Tryd.prog 8 #[.int .i64 k, .int .u64 n] w fun e w' => e = .returned (.bool true) ∧ Below w.heap.size w w' := by
  have h0 := shown_true w hE
  have hk1 : ¬ (k : Int) < 1 := by omega
  have hk2 : ¬ (19 : Int) < k := by omega
  have K1 := Lib.hid fun w => Field_ok k (by omega) n hn hl w
  have K2 : Hid (∀ w, Calls Tryd.prog 16 #[.int .i64 ((k : Int) + 1), .int .u64 n] w _) := Lib.hid fun w => Field_ok (k + 1) (by omega) n hn (by omega) w
  have hm := fieldL_more hl
  have k3 := fun w (h : NumErrs w a1 a2) => Read_any ⟨(fieldL k n).toArray⟩ (by simp [ByteArray.size, fieldL_len hl]; omega) w h
  have k4 := fun w (h : NumErrs w a1 a2) => Read_any ⟨(fieldL (k + 1) n).toArray⟩ (by simp [ByteArray.size, fieldL_len (show (putL 8 n).length ≤ k + 1 by omega)]; omega) w h
  rw [show (⟨(fieldL k n).toArray⟩ : ByteArray).data.toList = fieldL k n from rfl, read_field (by omega) hn hl] at k3
  rw [show (⟨(fieldL (k + 1) n).toArray⟩ : ByteArray).data.toList = fieldL (k + 1) n from rfl, read_field (by omega) hn (by omega)] at k4
  have hlen := fieldL_len hl
  rw [hm] at k4 K2
  generalize fieldL k n = p at *
  have hs1 : (⟨#[48]⟩ : ByteArray).size + (⟨p.toArray⟩ : ByteArray).size ≤ 9223372036854775807 := by simp [ByteArray.size]; omega
  have hs2 := fun w2 => run_string_add_sum (P := Tryd.prog) w2 _ _ hs1
  rw [show (⟨#[48]⟩ : ByteArray) ++ (⟨p.toArray⟩ : ByteArray) = ⟨(48 :: p).toArray⟩ from by apply ByteArray.ext; simp] at hs2
  have K3 := Lib.hid k3
  have K4 := Lib.hid k4
  clear k3 k4 hs1 hn hm hl
  go_enter Tryd.func8, Tryd.ntmps8
  go_wp2_with fail
  refine h0.mono ?_
  rintro e w1 ⟨rfl, hB1⟩
  have hE1 := hE.below hB1
  go_wp2_with fail
  refine (K1.out _).mono ?_
  rintro e w2 ⟨rfl, hB2⟩
  have hE2 := hE1.below hB2
  go_wp2_with fail
  refine (K2.out _).mono ?_
  rintro e w3 ⟨rfl, hB3⟩
  have hE3 := hE2.below hB3
  go_wp2_with fail
  refine (K3.out _ hE3).mono ?_
  rintro e w4 ⟨rfl, hB4⟩
  have hE4 := hE3.below hB4
  simp only [GetRes]
  go_wp2_with fail
  refine (K4.out _ hE4).mono ?_
  rintro e w5 ⟨rfl, hB5⟩
  simp only [GetRes]
  go_wp2_with fail
  go_ret
  exact ⟨rfl, bthen (bthen (bthen (bthen hB1 hB2) hB3) hB4) hB5⟩

theorem NumShort_law (k n : Int) (_ : (Lit.int .i64 k).wf = true) (hn : (Lit.int .u64 n).wf = true) (w : World) {a1 a2 : Addr} (hE : NumErrs w a1 a2) :
    Calls Tryd.prog 8 #[.int .i64 k, .int .u64 n] w fun e w' => e = .returned (.bool true) ∧ Below w.heap.size w w' := by
  by_cases hk : k < 1 ∨ 19 < k
  · exact short_bad k hk n w hE
  obtain ⟨k, rfl⟩ := Int.eq_ofNat_of_zero_le (show 0 ≤ k by omega)
  obtain ⟨n, rfl, hn'⟩ := u64_nat hn
  by_cases hl : k < (putL 8 n).length
  · exact short_num k (by omega) n hn' hl w hE
  · exact short_ok k (by omega) n hn' (by omega) w hE
end Go.Proofs.YtdcgkkfpgpiejaaDoor
