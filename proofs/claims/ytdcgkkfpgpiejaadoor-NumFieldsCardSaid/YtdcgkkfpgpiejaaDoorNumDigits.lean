/-
  The statement NumDigits: a digit more behind is the number, as often as the base says, and that digit. Its walk.
-/
import Derived.Test.YtdcgkkfpgpiejaaDoorNumSums
import Derived.Test.YtdcgkkfpgpiejaaDoorNumMath
namespace Go.Proofs.YtdcgkkfpgpiejaaDoor
open Go.RowKit

theorem dig_one {b d : Nat} (hb : 2 ≤ b) (hd : d < b) : dig b d = [d] := by
  rw [dig_step hb, if_pos (Nat.div_eq_of_lt hd), Nat.mod_eq_of_lt hd]; rfl
theorem more_div {b n d : Nat} (hb : 2 ≤ b) (hd : d < b) : (b * n + d) / b = n := by
  rw [Nat.add_comm, Nat.add_mul_div_left _ _ (by omega), Nat.div_eq_of_lt hd]; omega
theorem dig_more {b n d : Nat} (hb : 2 ≤ b) (hd : d < b) (hn : n ≠ 0) : putL b (b * n + d) = putL b n ++ putL b d := by
  rw [putL_dig, putL_dig, putL_dig, dig_one hb hd, dig_step hb (n := b * n + d), more_div hb hd, if_neg hn, List.map_append]
  simp [Nat.mod_eq_of_lt hd]
theorem get_more {b n d : Nat} (hb2 : 2 ≤ b) (hb : b ≤ 16) (hd : d < b) (hm : b * n + d < 18446744073709551616) : getN b (putL b n ++ putL b d) = some (b * n + d) := by
  have hv : value b 0 (dig b n ++ dig b d) = b * n + d := by
    rw [value_append, dig_value hb2, dig_one hb2 hd]; simp [value]
  have hp := dig_pos b n
  unfold getN
  rw [if_neg (by rw [putL_dig]; intro e; have := congrArg List.length e; rw [List.length_append, List.length_map] at this; simp only [List.length_nil] at this; omega)]
  rw [putL_dig, putL_dig, ← List.map_append, gfold_value hb2 hb, hv]
  · intro x hx
    rcases List.mem_append.1 hx with h | h
    · exact dig_lt hb2 n x h
    · exact dig_lt hb2 d x h
  · rw [hv]; exact hm

set_option maxRecDepth 100000 in
set_option maxHeartbeats 4000000 in
theorem digits_base (b n d : Nat) (hb : b = 8 ∨ b = 10 ∨ b = 16) (hn : n < 18446744073709551616) (hd : d < 18446744073709551616) (w : World) {a1 a2 : Addr} (hE : NumErrs w a1 a2) :
    Calls Tryd.prog 5 #[.int .i64 b, .int .u64 n, .int .u64 d] w fun e w' => e = .returned (.bool true) ∧ Below w.heap.size w w' := by
  have h0 := shown_true w hE
  by_cases hbig : 576460752303423488 ≤ n
  · have hbig2 : (576460752303423488 : Int) ≤ (n : Int) := by omega
    clear hbig hn hd
    rcases hb with rfl | rfl | rfl <;>
    · go_enter Tryd.func5, Tryd.ntmps5
      go_wp2_with fail
      refine h0.mono ?_
      rintro e w1 ⟨rfl, hB1⟩
      go_wp2_with fail
      go_ret
      exact ⟨rfl, hB1⟩
  have hbig2 : ((576460752303423488 : Int) ≤ (n : Int)) = False := by simp; omega
  by_cases hdb : b ≤ d
  · clear hbig hn hd
    rcases hb with rfl | rfl | rfl <;>
    · go_enter Tryd.func5, Tryd.ntmps5
      go_wp2_with fail
      refine h0.mono ?_
      rintro e w1 ⟨rfl, hB1⟩
      go_wp2_with fail
      go_ret
      exact ⟨rfl, hB1⟩
  have hdb2 : d < b := by omega
  have hb2 : 2 ≤ b := by omega
  have hb16 : b ≤ 16 := by omega
  have hbn : b * n ≤ 16 * n := Nat.mul_le_mul_right n hb16
  obtain ⟨m, hm⟩ : ∃ m, m = b * n + d := ⟨_, rfl⟩
  have hmlt : m < 18446744073709551616 := by omega
  have kn := fun w => Put_base b hb n hn w
  have kd := fun w => Put_base b hb d (by omega) w
  have km := fun w => Put_base b hb m hmlt w
  have hl1 : (putL b n).length ≤ 64 := by rw [putL_length]; exact rdig_length b n hb2 hn
  have hl2 : (putL b d).length = 1 := by rw [putL_dig, dig_one hb2 hdb2]; rfl
  have kg := fun w (h : NumErrs w a1 a2) => Get_base b hb ⟨(putL b n ++ putL b d).toArray⟩ (by simp [ByteArray.size]; omega) w h
  have hgm := get_more (n := n) hb2 hb16 hdb2 (by omega)
  have hdm := dig_more (n := n) hb2 hdb2
  rw [← hm] at hgm hdm
  rw [show (⟨(putL b n ++ putL b d).toArray⟩ : ByteArray).data.toList = putL b n ++ putL b d from rfl, hgm] at kg
  have hm0 : n = 0 → m = d := by rintro rfl; simpa using hm
  obtain ⟨t, ht⟩ : ∃ t, t = b * n := ⟨_, rfl⟩
  have hw1 : IntKind.u64.wrap ((b : Int) * n) = (t : Int) := by
    rw [IntKind.wrap_u64, ht, Int.natCast_mul, Int.emod_eq_of_lt (by omega) (by omega)]
  have hw2 : IntKind.u64.wrap ((t : Int) + d) = (m : Int) := by
    rw [IntKind.wrap_u64]; omega
  generalize putL b n = p at *
  generalize putL b d = q at *
  generalize putL b m = r at *
  have hq1 : (⟨q.toArray⟩ : ByteArray).size = 1 := hl2
  have hs1 : (⟨p.toArray⟩ : ByteArray).size + (⟨q.toArray⟩ : ByteArray).size ≤ 9223372036854775807 := by simp [ByteArray.size]; omega
  have hs2 := fun w2 => run_string_add_sum (P := Tryd.prog) w2 _ _ hs1
  rw [show (⟨p.toArray⟩ : ByteArray) ++ (⟨q.toArray⟩ : ByteArray) = ⟨(p ++ q).toArray⟩ from by apply ByteArray.ext; simp] at hs2
  have KN := Lib.hid kn
  have KD := Lib.hid kd
  have KM := Lib.hid km
  have KG := Lib.hid kg
  clear kn kd km kg hs1 hmlt hm hbn hbig hn hd hgm hdb ht
  by_cases hn0 : n = 0
  · obtain rfl := hm0 hn0
    subst hn0
    clear hdm hw1 hw2
    rcases hb with rfl | rfl | rfl <;>
    · go_enter Tryd.func5, Tryd.ntmps5
      go_wp2_with fail
      refine h0.mono ?_
      rintro e w1 ⟨rfl, hB1⟩
      go_wp2_with fail
      refine (KN.out _).mono ?_
      rintro e w2 ⟨rfl, hB2⟩
      go_wp2_with fail
      refine (KD.out _).mono ?_
      rintro e w3 ⟨rfl, hB3⟩
      go_wp2_with fail
      refine (KG.out _ (((hE.below hB1).below hB2).below hB3)).mono ?_
      rintro e w4 ⟨rfl, hB4⟩
      simp only [GetRes]
      go_wp2_with fail
      refine (KD.out _).mono ?_
      rintro e w5 ⟨rfl, hB5⟩
      go_wp2_with fail
      go_ret
      exact ⟨rfl, bthen (bthen (bthen (bthen hB1 hB2) hB3) hB4) hB5⟩
  · obtain rfl := hdm hn0
    clear hdm hm0
    rcases hb with rfl | rfl | rfl <;>
    · simp only [Int.cast_ofNat_Int] at hw1
      go_enter Tryd.func5, Tryd.ntmps5
      go_wp2_with fail
      refine h0.mono ?_
      rintro e w1 ⟨rfl, hB1⟩
      go_wp2_with fail
      refine (KN.out _).mono ?_
      rintro e w2 ⟨rfl, hB2⟩
      go_wp2_with fail
      refine (KD.out _).mono ?_
      rintro e w3 ⟨rfl, hB3⟩
      go_wp2_with fail
      refine (KG.out _ (((hE.below hB1).below hB2).below hB3)).mono ?_
      rintro e w4 ⟨rfl, hB4⟩
      simp only [GetRes]
      go_wp2_with fail
      refine (KD.out _).mono ?_
      rintro e w5 ⟨rfl, hB5⟩
      go_wp2_with fail
      refine (KM.out _).mono ?_
      rintro e w6 ⟨rfl, hB6⟩
      go_wp2_with fail
      refine (KN.out _).mono ?_
      rintro e w7 ⟨rfl, hB7⟩
      go_wp2_with fail
      refine (KD.out _).mono ?_
      rintro e w8 ⟨rfl, hB8⟩
      go_wp2_with fail
      go_ret
      exact ⟨rfl, bthen (bthen (bthen (bthen (bthen (bthen (bthen hB1 hB2) hB3) hB4) hB5) hB6) hB7) hB8⟩

set_option maxRecDepth 100000 in
theorem digits_none (b n d : Int) (h8 : b ≠ 8) (h10 : b ≠ 10) (h16 : b ≠ 16) (w : World) {a1 a2 : Addr} (hE : NumErrs w a1 a2) :
    Calls Tryd.prog 5 #[.int .i64 b, .int .u64 n, .int .u64 d] w fun e w' => e = .returned (.bool true) ∧ Below w.heap.size w w' := by
  have h0 := shown_true w hE
  go_enter Tryd.func5, Tryd.ntmps5
  go_wp2_with fail
  refine h0.mono ?_
  rintro e w1 ⟨rfl, hB1⟩
  go_wp2_with fail
  go_ret
  exact ⟨rfl, hB1⟩

theorem NumDigits_law (b n d : Int) (_ : (Lit.int .i64 b).wf = true) (hn : (Lit.int .u64 n).wf = true) (hd : (Lit.int .u64 d).wf = true) (w : World) {a1 a2 : Addr} (hE : NumErrs w a1 a2) :
    Calls Tryd.prog 5 #[.int .i64 b, .int .u64 n, .int .u64 d] w fun e w' => e = .returned (.bool true) ∧ Below w.heap.size w w' := by
  obtain ⟨n, rfl, hn'⟩ := u64_nat hn
  obtain ⟨d, rfl, hd'⟩ := u64_nat hd
  by_cases h8 : b = 8
  · subst h8; exact digits_base 8 n d (by omega) hn' hd' w hE
  by_cases h10 : b = 10
  · subst h10; exact digits_base 10 n d (by omega) hn' hd' w hE
  by_cases h16 : b = 16
  · subst h16; exact digits_base 16 n d (by omega) hn' hd' w hE
  exact digits_none b n d h8 h10 h16 w hE
end Go.Proofs.YtdcgkkfpgpiejaaDoor
