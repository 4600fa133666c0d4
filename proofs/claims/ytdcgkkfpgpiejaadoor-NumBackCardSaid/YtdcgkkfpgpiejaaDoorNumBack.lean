/-
  The statement NumBack: numbers and their digits are one to one. Its walk.
-/
import Derived.Test.YtdcgkkfpgpiejaaDoorNumShort
namespace Go.Proofs.YtdcgkkfpgpiejaaDoor
open Go.RowKit

theorem own_put {b : Nat} (hb2 : 2 ≤ b) (hb : b ≤ 16) (n : Nat) (hn : n < 18446744073709551616) : ownN b (putL b n) = some n := by
  unfold ownN
  rw [get_put hb2 hb n hn]; simp

theorem ownN_some {b c : Nat} {l : List UInt8} (h : ownN b l = some c) : getN b l = some c ∧ putL b c = l := by
  unfold ownN at h
  split at h
  · rename_i x hx
    split at h
    · rename_i hp; cases h; exact ⟨hx, hp⟩
    · cases h
  · cases h

set_option maxRecDepth 100000 in
theorem back_none (b : Int) (hw : (Lit.int .i64 b).wf = true) (h8 : b ≠ 8) (h10 : b ≠ 10) (h16 : b ≠ 16) (n : Int) (s : ByteArray) (hs : s.size ≤ 140737488351232) (w : World) {a1 a2 : Addr} (hE : NumErrs w a1 a2) :
    Calls Tryd.prog 10 #[.int .i64 b, .int .u64 n, .string s] w fun e w' => e = .returned (.bool true) ∧ Below w.heap.size w w' := by
  have h0 := shown_true w hE
  have K0 := Lib.hid fun w => cut_any s hs w
  have K1 := Lib.hid fun w (h : NumErrs w a1 a2) => Get_none b hw h8 h10 h16 (firstB 50 s) w h
  have K2 := Lib.hid fun w (h : NumErrs w a1 a2) => Put_none b hw h8 h10 h16 n w h
  have g8 : (b != 8) = true := by simpa using h8
  have g10 : (b != 10) = true := by simpa using h10
  have g16 : (b != 16) = true := by simpa using h16
  clear hw h8 h10 h16 hs
  go_enter Tryd.func10, Tryd.ntmps10
  go_wp2_with fail
  refine h0.mono ?_
  rintro e w1 ⟨rfl, hB1⟩
  have hE1 := hE.below hB1
  go_wp2_with fail
  refine (K0.out _).mono ?_
  rintro e w' ⟨rfl, rfl⟩
  go_wp2_with fail
  refine (K1.out _ hE1).mono ?_
  rintro e w2 ⟨rfl, hB2⟩
  have hE2 := hE1.below hB2
  go_wp2_with fail
  refine (K2.out _ hE2).mono ?_
  rintro e w3 ⟨rfl, hB3⟩
  go_wp2_with fail
  go_ret
  exact ⟨rfl, bthen (bthen hB1 hB2) hB3⟩

set_option maxRecDepth 100000 in
set_option maxHeartbeats 2000000 in
theorem back_base (b : Nat) (hb : b = 8 ∨ b = 10 ∨ b = 16) (n : Nat) (hn : n < 18446744073709551616) (s : ByteArray) (hs : s.size ≤ 140737488351232) (w : World) {a1 a2 : Addr} (hE : NumErrs w a1 a2) :
    Calls Tryd.prog 10 #[.int .i64 b, .int .u64 n, .string s] w fun e w' => e = .returned (.bool true) ∧ Below w.heap.size w w' := by
  have h0 := shown_true w hE
  have hb2 : 2 ≤ b := by omega
  have hb16 : b ≤ 16 := by omega
  have hl1 : (putL b n).length ≤ 64 := by rw [putL_length]; exact rdig_length b n hb2 hn
  have K0 := Lib.hid fun w => cut_any s hs w
  have hc50 := firstB_le 50 s
  have K1 := Lib.hid fun w => Put_base b hb n hn w
  have k2 := fun w (h : NumErrs w a1 a2) => Own_base b hb ⟨(putL b n).toArray⟩ (by simp [ByteArray.size]; omega) w h
  have k3 := fun w (h : NumErrs w a1 a2) => Get_base b hb ⟨(48 :: 48 :: putL b n).toArray⟩ (by simp [ByteArray.size]; omega) w h
  rw [show (⟨(putL b n).toArray⟩ : ByteArray).data.toList = putL b n from rfl, own_put hb2 hb16 n hn] at k2
  rw [show (⟨(48 :: 48 :: putL b n).toArray⟩ : ByteArray).data.toList = List.replicate 2 48 ++ putL b n from rfl, get_zeros hb2 hb16 2 n hn] at k3
  have K4 := Lib.hid fun w (h : NumErrs w a1 a2) => Own_base b hb (firstB 50 s) (by omega) w h
  generalize firstB 50 s = t at *
  generalize putL b n = p at *
  have hs1 : (⟨#[48, 48]⟩ : ByteArray).size + (⟨p.toArray⟩ : ByteArray).size ≤ 9223372036854775807 := by simp [ByteArray.size]; omega
  have hs2 := fun w2 => run_string_add_sum (P := Tryd.prog) w2 _ _ hs1
  rw [show (⟨#[48, 48]⟩ : ByteArray) ++ (⟨p.toArray⟩ : ByteArray) = ⟨(48 :: 48 :: p).toArray⟩ from by apply ByteArray.ext; simp] at hs2
  have K2 := Lib.hid k2
  have K3 := Lib.hid k3
  clear k2 k3 hn hs hs1
  cases ho : ownN b t.data.toList with
  | none =>
    rw [ho] at K4
    clear ho
    rcases hb with rfl | rfl | rfl <;>
    · go_enter Tryd.func10, Tryd.ntmps10
      go_wp2_with fail
      refine h0.mono ?_
      rintro e w1 ⟨rfl, hB1⟩
      have hE1 := hE.below hB1
      go_wp2_with fail
      refine (K1.out _).mono ?_
      rintro e w2 ⟨rfl, hB2⟩
      have hE2 := hE1.below hB2
      go_wp2_with fail
      refine (K2.out _ hE2).mono ?_
      rintro e w3 ⟨rfl, hB3⟩
      have hE3 := hE2.below hB3
      simp only [GetRes]
      go_wp2_with fail
      refine (K1.out _).mono ?_
      rintro e w4 ⟨rfl, hB4⟩
      have hE4 := hE3.below hB4
      go_wp2_with fail
      refine (K3.out _ hE4).mono ?_
      rintro e w5 ⟨rfl, hB5⟩
      have hE5 := hE4.below hB5
      simp only [GetRes]
      go_wp2_with fail
      refine (K0.out _).mono ?_
      rintro e w' ⟨rfl, rfl⟩
      go_wp2_with fail
      refine (K4.out _ hE5).mono ?_
      rintro e w6 ⟨rfl, hB6⟩
      simp only [GetRes]
      go_wp2_with fail
      go_ret
      exact ⟨rfl, bthen (bthen (bthen (bthen (bthen hB1 hB2) hB3) hB4) hB5) hB6⟩
  | some c =>
    obtain ⟨hg, hp⟩ := ownN_some ho
    have K5 := Lib.hid fun w => Put_base b hb c (getN_lt hb2 hg) w
    have ht : (⟨(putL b c).toArray⟩ : ByteArray) = t := by rw [hp]
    rw [ht] at K5
    rw [ho] at K4
    clear ho hg hp ht
    rcases hb with rfl | rfl | rfl <;>
    · go_enter Tryd.func10, Tryd.ntmps10
      go_wp2_with fail
      refine h0.mono ?_
      rintro e w1 ⟨rfl, hB1⟩
      have hE1 := hE.below hB1
      go_wp2_with fail
      refine (K1.out _).mono ?_
      rintro e w2 ⟨rfl, hB2⟩
      have hE2 := hE1.below hB2
      go_wp2_with fail
      refine (K2.out _ hE2).mono ?_
      rintro e w3 ⟨rfl, hB3⟩
      have hE3 := hE2.below hB3
      simp only [GetRes]
      go_wp2_with fail
      refine (K1.out _).mono ?_
      rintro e w4 ⟨rfl, hB4⟩
      have hE4 := hE3.below hB4
      go_wp2_with fail
      refine (K3.out _ hE4).mono ?_
      rintro e w5 ⟨rfl, hB5⟩
      have hE5 := hE4.below hB5
      simp only [GetRes]
      go_wp2_with fail
      refine (K0.out _).mono ?_
      rintro e w' ⟨rfl, rfl⟩
      go_wp2_with fail
      refine (K4.out _ hE5).mono ?_
      rintro e w6 ⟨rfl, hB6⟩
      simp only [GetRes]
      go_wp2_with fail
      refine (K5.out _).mono ?_
      rintro e w7 ⟨rfl, hB7⟩
      go_wp2_with fail
      refine (K0.out _).mono ?_
      rintro e w' ⟨rfl, rfl⟩
      go_wp2_with fail
      go_ret
      exact ⟨rfl, bthen (bthen (bthen (bthen (bthen (bthen hB1 hB2) hB3) hB4) hB5) hB6) hB7⟩

theorem NumBack_law (b n : Int) (s : ByteArray) (hb : (Lit.int .i64 b).wf = true) (hn : (Lit.int .u64 n).wf = true) (hs : s.size ≤ 140737488351232) (w : World) {a1 a2 : Addr} (hE : NumErrs w a1 a2) :
    Calls Tryd.prog 10 #[.int .i64 b, .int .u64 n, .string s] w fun e w' => e = .returned (.bool true) ∧ Below w.heap.size w w' := by
  obtain ⟨n, rfl, hn'⟩ := u64_nat hn
  by_cases h8 : b = 8
  · subst h8; exact back_base 8 (by omega) n hn' s hs w hE
  by_cases h10 : b = 10
  · subst h10; exact back_base 10 (by omega) n hn' s hs w hE
  by_cases h16 : b = 16
  · subst h16; exact back_base 16 (by omega) n hn' s hs w hE
  exact back_none b hb h8 h10 h16 n s hs w hE
end Go.Proofs.YtdcgkkfpgpiejaaDoor
