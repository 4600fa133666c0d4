/-
  The statement NumWidths: fields of a width are one to one, and as long; the greatest number of a width has all digits 7. Its walk.
-/
import Derived.Test.YtdcgkkfpgpiejaaDoorNumShort
namespace Go.Proofs.YtdcgkkfpgpiejaaDoor
open Go.RowKit

set_option maxRecDepth 100000 in
theorem widths_bad (k : Int) (hk : k < 1 ∨ 20 < k) (n : Nat) (hn : n < 18446744073709551616) (w : World) {a1 a2 : Addr} (hE : NumErrs w a1 a2) :
    Calls Tryd.prog 7 #[.int .i64 k, .int .u64 n] w fun e w' => e = .returned (.bool true) ∧ Below w.heap.size w w' := by
  have h0 := shown_true w hE
  have K1 := Lib.hid fun w (h : NumErrs w a1 a2) => Field_bad k hk n hn w h
  clear hn
  rcases hk with hk | hk
  · go_enter Tryd.func7, Tryd.ntmps7
    go_wp2_with fail
    refine h0.mono ?_
    rintro e w1 ⟨rfl, hB1⟩
    go_wp2_with fail
    refine (K1.out _ (hE.below hB1)).mono ?_
    rintro e w2 ⟨rfl, hB2⟩
    go_wp2_with fail
    go_ret
    exact ⟨rfl, bthen hB1 hB2⟩
  · have hk1 : ¬ k < 1 := by omega
    go_enter Tryd.func7, Tryd.ntmps7
    go_wp2_with fail
    refine h0.mono ?_
    rintro e w1 ⟨rfl, hB1⟩
    go_wp2_with fail
    refine (K1.out _ (hE.below hB1)).mono ?_
    rintro e w2 ⟨rfl, hB2⟩
    go_wp2_with fail
    go_ret
    exact ⟨rfl, bthen hB1 hB2⟩

set_option maxRecDepth 100000 in
set_option maxHeartbeats 1000000 in
theorem widths_num (k : Nat) (hk : 1 ≤ k ∧ k ≤ 20) (n : Nat) (hn : n < 18446744073709551616) (hl : k < (putL 8 n).length) (w : World) {a1 a2 : Addr} (hE : NumErrs w a1 a2) :
    Calls Tryd.prog 7 #[.int .i64 k, .int .u64 n] w fun e w' => e = .returned (.bool true) ∧ Below w.heap.size w w' := by
  have h0 := shown_true w hE
  have K1 := Lib.hid fun w (h : NumErrs w a1 a2) => Field_num k (by omega) n hn hl w h
  have hk1 : ((k : Int) < 1) = False := by simp; omega
  have hk2 : ((20 : Int) < k) = False := by simp; omega
  clear hn hl
  go_enter Tryd.func7, Tryd.ntmps7
  go_wp2_with fail
  refine h0.mono ?_
  rintro e w1 ⟨rfl, hB1⟩
  have hE1 := hE.below hB1
  go_wp2_with fail
  refine (K1.out _ hE1).mono ?_
  rintro e w2 ⟨rfl, hB2⟩
  go_wp2_with fail
  go_ret
  exact ⟨rfl, bthen hB1 hB2⟩

theorem putL_len8 {k n : Nat} : (putL 8 n).length ≤ k + 1 ↔ n < 8 ^ (k + 1) := by
  rw [putL_dig, List.length_map]; exact dig_len (by omega) k n

set_option maxRecDepth 100000 in
set_option maxHeartbeats 1000000 in
theorem widths_ok (k : Nat) (hk : 1 ≤ k ∧ k ≤ 20) (n : Nat) (hn : n < 18446744073709551616) (hl : (putL 8 n).length ≤ k) (w : World) {a1 a2 : Addr} (hE : NumErrs w a1 a2) :
    Calls Tryd.prog 7 #[.int .i64 k, .int .u64 n] w fun e w' => e = .returned (.bool true) ∧ Below w.heap.size w w' := by
  have h0 := shown_true w hE
  obtain ⟨M, hM⟩ : ∃ M : Nat, M + 1 = 8 ^ k := ⟨8 ^ k - 1, by have : 0 < 8 ^ k := Nat.pow_pos (by omega); omega⟩
  have hM60 : 8 ^ k ≤ 8 ^ 20 := Nat.pow_le_pow_right (by omega) hk.2
  rw [show (8 : Nat) ^ 20 = 1152921504606846976 by decide, ← hM] at hM60
  have hp : (2 : Int) ^ (3 * k) = ((8 ^ k : Nat) : Int) := by rw [Int.pow_mul]; simp
  have hw1 : IntKind.u64.wrap (IntKind.u64.wrap ((2 : Int) ^ (3 * k)) - 1) = (M : Int) := by
    rw [hp, ← hM, IntKind.wrap_u64, IntKind.wrap_u64]; omega
  have hw2 : IntKind.u64.wrap ((M : Int) + 1) = (M : Int) + 1 := by
    rw [IntKind.wrap_u64]; omega
  have hlM : (putL 8 M).length ≤ k := by
    obtain ⟨j, rfl⟩ : ∃ j, k = j + 1 := ⟨k - 1, by omega⟩
    rw [putL_len8]; omega
  have hlM1 : k < (putL 8 (M + 1)).length := by
    obtain ⟨j, rfl⟩ : ∃ j, k = j + 1 := ⟨k - 1, by omega⟩
    have := putL_len8 (k := j) (n := M + 1)
    omega
  have hnM : (n : Int) ≤ M := by
    obtain ⟨j, rfl⟩ : ∃ j, k = j + 1 := ⟨k - 1, by omega⟩
    have := putL_len8 (k := j) (n := n)
    omega
  have hmin : min (k : Int) 20 = k := by omega
  have K1 := Lib.hid fun w => Field_ok k (by omega) n hn hl w
  have K2 := Lib.hid fun w => Field_ok k (by omega) M (by omega) hlM w
  have K3 : Hid (∀ w, NumErrs w a1 a2 → Calls Tryd.prog 16 #[.int .i64 k, .int .u64 ((M : Int) + 1)] w _) := Lib.hid fun w h => Field_num k (by omega) (M + 1) (by omega) hlM1 w h
  have k4 := fun w (h : NumErrs w a1 a2) => Read_any ⟨(fieldL k n).toArray⟩ (by simp [ByteArray.size, fieldL_len hl]; omega) w h
  rw [show (⟨(fieldL k n).toArray⟩ : ByteArray).data.toList = fieldL k n from rfl, read_field (by omega) hn hl] at k4
  have hlen : (⟨(fieldL k n).toArray⟩ : ByteArray).size = k := fieldL_len hl
  generalize fieldL k n = p at *
  generalize fieldL k M = q at *
  have K4 := Lib.hid k4
  clear k4 hn hl hlM hlM1 hM60 hp hM
  go_enter Tryd.func7, Tryd.ntmps7
  go_wp2_with fail
  refine h0.mono ?_
  rintro e w1 ⟨rfl, hB1⟩
  have hE1 := hE.below hB1
  go_wp2_with fail
  refine (K1.out _).mono ?_
  rintro e w2 ⟨rfl, hB2⟩
  have hE2 := hE1.below hB2
  go_wp2_with fail
  refine (K4.out _ hE2).mono ?_
  rintro e w3 ⟨rfl, hB3⟩
  have hE3 := hE2.below hB3
  simp only [GetRes]
  go_wp2_with fail
  refine (K2.out _).mono ?_
  rintro e w4 ⟨rfl, hB4⟩
  have hE4 := hE3.below hB4
  go_wp2_with fail
  refine (K3.out _ hE4).mono ?_
  rintro e w5 ⟨rfl, hB5⟩
  go_wp2_with fail
  go_ret
  exact ⟨rfl, bthen (bthen (bthen (bthen hB1 hB2) hB3) hB4) hB5⟩

theorem NumWidths_law (k n : Int) (_ : (Lit.int .i64 k).wf = true) (hn : (Lit.int .u64 n).wf = true) (w : World) {a1 a2 : Addr} (hE : NumErrs w a1 a2) :
    Calls Tryd.prog 7 #[.int .i64 k, .int .u64 n] w fun e w' => e = .returned (.bool true) ∧ Below w.heap.size w w' := by
  obtain ⟨n, rfl, hn'⟩ := u64_nat hn
  by_cases hk : k < 1 ∨ 20 < k
  · exact widths_bad k hk n hn' w hE
  obtain ⟨k, rfl⟩ := Int.eq_ofNat_of_zero_le (show 0 ≤ k by omega)
  by_cases hl : k < (putL 8 n).length
  · exact widths_num k (by omega) n hn' hl w hE
  · exact widths_ok k (by omega) n hn' (by omega) w hE
end Go.Proofs.YtdcgkkfpgpiejaaDoor
