/-
  The reference package's Field, Read and Sum, by contract: they answer as num's.
-/
import Derived.Test.YtdcgkkfpgpiejaaDoorRefGet
namespace Go.Proofs.YtdcgkkfpgpiejaaDoor
open Go.RowKit

set_option maxRecDepth 100000 in
theorem ref_Field_bad (k : Int) (hk : k < 1 ∨ 20 < k) (n : Int) (w : World) :
    Calls Tryd.prog 17 #[.int .i64 k, .int .u64 n] w fun e w' => e = .returned (.tuple #[.string ⟨#[]⟩, .int .i64 2]) ∧ w = w' := by
  rcases hk with h | h
  · go_enter Tryd.func17, Tryd.ntmps17
    go_wp2_with fail
    go_ret2
    exact ⟨rfl, rfl⟩
  · have h1 : ¬ k < 1 := by omega
    go_enter Tryd.func17, Tryd.ntmps17
    go_wp2_with fail
    go_ret2
    exact ⟨rfl, rfl⟩

set_option maxRecDepth 100000 in
theorem ref_Field_num (k : Nat) (hk : 1 ≤ k ∧ k ≤ 20) (n : Nat) (hn : n < 18446744073709551616) (hl : k < (putL 8 n).length) (w : World) :
    Calls Tryd.prog 17 #[.int .i64 k, .int .u64 n] w fun e w' => e = .returned (.tuple #[.string ⟨#[]⟩, .int .i64 30]) ∧ Below w.heap.size w w' := by
  have K1 : Calls Tryd.prog 25 #[.int .i64 8, .int .u64 n] w _ := ref_Put_base 8 (by omega) n hn w
  generalize putL 8 n = p at *
  have hsz : (⟨p.toArray⟩ : ByteArray).size = p.length := rfl
  have t1 : ((k : Int) < 1) = False := by simp; omega
  have t2 : ((20 : Int) < k) = False := by simp; omega
  have t3 : ((k : Int) < p.length) = True := by simp; omega
  clear hn hl hk
  go_enter Tryd.func17, Tryd.ntmps17
  go_wp2_with fail
  refine K1.mono ?_
  rintro e w1 ⟨rfl, hB1⟩
  go_wp2_with fail
  go_ret2
  exact ⟨rfl, hB1⟩

set_option maxRecDepth 100000 in
set_option maxHeartbeats 1000000 in
theorem ref_Field_ok (k : Nat) (hk : 1 ≤ k ∧ k ≤ 20) (n : Nat) (hn : n < 18446744073709551616) (hl : (putL 8 n).length ≤ k) (w : World) :
    Calls Tryd.prog 17 #[.int .i64 k, .int .u64 n] w fun e w' => e = .returned (.tuple #[.string ⟨(fieldL k n).toArray⟩, .int .i64 0]) ∧ Below w.heap.size w w' := by
  have K1 : Calls Tryd.prog 25 #[.int .i64 8, .int .u64 n] w _ := ref_Put_base 8 (by omega) n hn w
  unfold fieldL
  generalize putL 8 n = p at *
  have hsz : ∀ l : List UInt8, (⟨l.toArray⟩ : ByteArray).size = l.length := fun _ => rfl
  have t1 : ((k : Int) < 1) = False := by simp; omega
  have t2 : ((20 : Int) < k) = False := by simp; omega
  have t3 : ((k : Int) < p.length) = False := by simp; omega
  clear hn
  go_enter Tryd.func17, Tryd.ntmps17
  go_wp2_with fail
  refine K1.mono ?_
  rintro e w1 ⟨rfl, hB1⟩
  go_wp2_with fail
  clear t1 t2 t3 K1
  go_loop [6] (fun s => ∃ j : Nat, j + p.length ≤ k ∧ s = .string ⟨(List.replicate j 48 ++ p).toArray⟩) (fun s => k - (match s with | .string b => b.size | _ => 0))
  case atStart => exact ⟨0, by omega, rfl⟩
  case round =>
    obtain ⟨j, hj, rfl⟩ := hrel
    have hlen : (List.replicate j (48 : UInt8) ++ p).length = j + p.length := by simp
    have hjs : List.replicate (j + 1) (48 : UInt8) ++ p = 48 :: (List.replicate j 48 ++ p) := by rw [List.replicate_succ]; rfl
    by_cases hlt : j + p.length < k
    · have hjs2 := Lib.hid hjs
      have hlen2 := Lib.hid hlen
      generalize List.replicate j (48 : UInt8) ++ p = l at *
      have t3 : ((l.length : Int) < k) = True := by simp; omega
      have hs1 : (⟨#[48]⟩ : ByteArray).size + (⟨l.toArray⟩ : ByteArray).size ≤ 9223372036854775807 := by simp [ByteArray.size]; omega
      have hs2 := fun w2 => run_string_add_sum (P := Tryd.prog) w2 _ _ hs1
      rw [show (⟨#[48]⟩ : ByteArray) ++ (⟨l.toArray⟩ : ByteArray) = ⟨(48 :: l).toArray⟩ from by apply ByteArray.ext; simp] at hs2
      clear hs1 hjs hlen
      go_wp2_with fail
      go_round
      case rel => exact ⟨j + 1, by omega, by rw [hjs2.out]⟩
      case measure =>
        have := hlen2.out
        simp [ByteArray.size]; omega
    · have hk2 : Hid (k - p.length = j) := Lib.hid (by omega)
      obtain ⟨l, hl2⟩ : ∃ l, l = List.replicate j (48 : UInt8) ++ p := ⟨_, rfl⟩
      rw [← hl2] at hlen ⊢
      have hl2 := Lib.hid hl2
      have t3 : ((l.length : Int) < k) = False := by simp; omega
      clear hjs
      go_wp2_with fail
      go_ret2
      exact ⟨by rw [hk2.out, ← hl2.out]; rfl, hB1⟩

set_option maxRecDepth 100000 in
theorem ref_Read_any (s : ByteArray) (hs2 : s.size ≤ 140737488351232) (w : World) :
    Calls Tryd.prog 20 #[.string s] w fun e w' => e = .returned (GetRes (readL s.data.toList)) ∧ w = w' := by
  unfold readL
  by_cases h : s.size ≤ 20
  · rw [if_pos (by simpa using h)]
    have hg : Calls Tryd.prog 22 #[.int .i64 8, .string s] w _ := ref_Get_base 8 (by omega) s (by omega) w
    have t1 : ((20 : Int) < s.size) = False := by simp; omega
    clear h
    cases h : getN 8 s.data.toList with
    | none =>
      rw [h] at hg
      clear h
      go_enter Tryd.func20, Tryd.ntmps20
      go_wp2_with fail
      refine hg.mono ?_
      rintro e w1 ⟨rfl, rfl⟩
      simp only [GetRes]
      go_wp2_with fail
      go_ret2
      exact ⟨rfl, rfl⟩
    | some x =>
      rw [h] at hg
      clear h
      go_enter Tryd.func20, Tryd.ntmps20
      go_wp2_with fail
      refine hg.mono ?_
      rintro e w1 ⟨rfl, rfl⟩
      simp only [GetRes]
      go_wp2_with fail
      go_ret2
      exact ⟨rfl, rfl⟩
  · rw [if_neg (by simpa using h)]
    have t1 : ((20 : Int) < s.size) = True := by simp; omega
    clear h
    go_enter Tryd.func20, Tryd.ntmps20
    go_wp2_with fail
    go_ret2
    exact ⟨rfl, rfl⟩

set_option maxHeartbeats 400000 in
theorem ref_Sum_any (s : ByteArray) (hs : s.size ≤ 140737488351232) (w : World) :
    Calls Tryd.prog 21 #[.string s] w fun e w' => e = .returned (.int .u64 (sumB s.data.toList)) ∧ w = w' := by
  go_enter Tryd.func21, Tryd.ntmps21
  go_wp2
  go_loop [3, 4] (fun n i => ∃ k : Nat, k ≤ s.size ∧ i = .int .i64 k ∧ n = .int .u64 (sumB (s.data.toList.take k))) (fun _ i => s.size - (intOf i).toNat)
  case atStart => exact ⟨0, Nat.zero_le _, rfl, rfl⟩
  case round =>
    obtain ⟨k, hk, rfl, rfl⟩ := hrel
    by_cases hlt : k < s.size
    · have hc1 : (k : Int) < s.size := by omega
      have hb := sumB_le (s.data.toList.take k)
      have hl : (s.data.toList.take k).length ≤ k := List.length_take_le _ _
      have hc2 := s[k].toNat_lt
      have HS := Lib.hid (sumB_take s k hlt)
      go_wp2
      go_round
      case rel => exact ⟨k + 1, by omega, by go_num, by rw [HS.out]; go_num⟩
      case measure => simp [intOf]; omega
    · have hE : Hid (s.data.toList.take k = s.data.toList) := List.take_of_length_le (by simp; omega)
      have hc1 : ((k : Int) < s.size) = False := by simp; omega
      go_wp2
      go_ret
      exact ⟨by rw [hE.out]; rfl, rfl⟩
end Go.Proofs.YtdcgkkfpgpiejaaDoor
