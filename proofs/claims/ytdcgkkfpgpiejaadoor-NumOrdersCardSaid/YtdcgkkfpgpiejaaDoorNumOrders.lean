/-
  The statement NumOrders: of two numbers the greater one's digits are no fewer, and, of as many, greater by bytes. Its walk.
-/
import Derived.Test.YtdcgkkfpgpiejaaDoorNumShort
import Derived.Deep.QuietTactic
import Derived.BigQuiet
import Derived.LoopTactic
namespace Go.Proofs.YtdcgkkfpgpiejaaDoor
open Go.RowKit

theorem dig_bytes {b : Nat} (hb2 : 2 ≤ b) (hb : b ≤ 16) (n : Nat) : (putL b n).map (fun c => (bdig c).toNat) = dig b n := by
  rw [putL_dig, List.map_map]
  conv => rhs; rw [← List.map_id (dig b n)]
  refine List.map_congr_left fun d hd => ?_
  have := dig_lt hb2 n d hd
  simp only [Function.comp, bdig_code d (by omega)]
  simp

/-- Where the digits of two numbers part, the less one's is less. -/
theorem part_lt {b : Nat} (hb2 : 2 ≤ b) (hb : b ≤ 16) {lo hi k : Nat} (hle : lo ≤ hi) (hl : (putL b lo).length = (putL b hi).length) (h1 : k < (putL b lo).length) (h2 : k < (putL b hi).length)
    (ht : (putL b lo).take k = (putL b hi).take k) (hne : (putL b lo)[k] ≠ (putL b hi)[k]) : ((putL b lo)[k]).toNat < ((putL b hi)[k]).toNat := by
  have e1 := dig_bytes hb2 hb lo
  have e2 := dig_bytes hb2 hb hi
  have f1 : k < (dig b lo).length := by rw [putL_dig, List.length_map] at h1; exact h1
  have f2 : k < (dig b hi).length := by rw [putL_dig, List.length_map] at h2; exact h2
  have t : (dig b lo).take k = (dig b hi).take k := by
    rw [← e1, ← e2, ← List.map_take, ← List.map_take, ht]
  have g1 : (putL b lo)[k] = UInt8.ofNat (code (dig b lo)[k]) := by simp [putL_dig]
  have g2 : (putL b hi)[k] = UInt8.ofNat (code (dig b hi)[k]) := by simp [putL_dig]
  have d1 := dig_lt hb2 lo _ (List.getElem_mem f1)
  have d2 := dig_lt hb2 hi _ (List.getElem_mem f2)
  have hlen : (dig b lo).length = (dig b hi).length := by simpa [putL_dig] using hl
  rw [g1, g2] at hne ⊢
  rw [byte_toNat _ (by omega), byte_toNat _ (by omega), ← code_mono _ _ (by omega)]
  have s1 : dig b lo = (dig b hi).take k ++ (dig b lo)[k] :: (dig b lo).drop (k + 1) := by
    rw [← t, List.getElem_cons_drop, List.take_append_drop]
  have s2 : dig b hi = (dig b hi).take k ++ (dig b hi)[k] :: (dig b hi).drop (k + 1) := by
    rw [List.getElem_cons_drop, List.take_append_drop]
  have v1 := dig_value hb2 lo
  have v2 := dig_value hb2 hi
  have hd : ∀ d ∈ (dig b hi).drop (k + 1), d < b := fun d h => dig_lt hb2 hi d (List.mem_of_mem_drop h)
  have hdl : ((dig b lo).drop (k + 1)).length = ((dig b hi).drop (k + 1)).length := by rw [List.length_drop, List.length_drop, hlen]
  generalize (dig b lo)[k] = c at *
  generalize (dig b hi)[k] = a at *
  rcases Nat.lt_trichotomy c a with h | h | h
  · exact h
  · exact (hne (by rw [h])).elim
  · rcases value_part (b := b) ((dig b hi).take k) c a _ _ hdl h with h3 | h3
    · rw [← s1, ← s2, v1, v2] at h3; omega
    · exact (h3 hd).elim

theorem put_le {b : Nat} (hb2 : 2 ≤ b) {lo hi : Nat} (hle : lo ≤ hi) : (putL b lo).length ≤ (putL b hi).length := by
  rw [putL_dig, putL_dig, List.length_map, List.length_map]
  have hp := dig_pos b hi
  obtain ⟨j, hj⟩ : ∃ j, (dig b hi).length = j + 1 := ⟨(dig b hi).length - 1, by omega⟩
  have h1 := (dig_len hb2 j hi).1 (by omega)
  have h2 := (dig_len hb2 j lo).2 (by omega)
  omega

theorem put_inj {b : Nat} (hb2 : 2 ≤ b) (hb : b ≤ 16) {lo hi : Nat} (h : putL b lo = putL b hi) : lo = hi := by
  rw [← dig_value hb2 lo, ← dig_value hb2 hi, ← dig_bytes hb2 hb lo, ← dig_bytes hb2 hb hi, h]

set_option maxRecDepth 100000 in
theorem orders_none (b : Int) (hw : (Lit.int .i64 b).wf = true) (h8 : b ≠ 8) (h10 : b ≠ 10) (h16 : b ≠ 16) (n m : Int) (w : World) {a1 a2 : Addr} (hE : NumErrs w a1 a2) :
    Calls Tryd.prog 3 #[.int .i64 b, .int .u64 n, .int .u64 m] w fun e w' => e = .returned (.bool true) ∧ Below w.heap.size w w' := by
  have h0 := shown_true w hE
  have K1 := Lib.hid fun x w (h : NumErrs w a1 a2) => Put_none b hw h8 h10 h16 x w h
  have g8 : (b != 8) = true := by simpa using h8
  have g10 : (b != 10) = true := by simpa using h10
  have g16 : (b != 16) = true := by simpa using h16
  clear hw h8 h10 h16
  go_enter Tryd.func3, Tryd.ntmps3
  go_wp2_with fail
  refine h0.mono ?_
  rintro e w1 ⟨rfl, hB1⟩
  have hE1 := hE.below hB1
  go_wp2_with fail
  refine (K1.out _ _ hE1).mono ?_
  rintro e w2 ⟨rfl, hB2⟩
  have hE2 := hE1.below hB2
  go_wp2_with fail
  refine (K1.out _ _ hE2).mono ?_
  rintro e w3 ⟨rfl, hB3⟩
  go_wp2_with fail
  go_ret
  exact ⟨rfl, bthen (bthen hB1 hB2) hB3⟩

set_option maxRecDepth 100000 in
set_option maxHeartbeats 2000000 in
theorem orders_base (b : Nat) (hb : b = 8 ∨ b = 10 ∨ b = 16) (n m lo hi : Nat) (hle : lo ≤ hi) (hhi : hi < 18446744073709551616) (hmin : min (n : Int) m = lo) (hmax : max (n : Int) m = hi) (w : World) {a1 a2 : Addr} (hE : NumErrs w a1 a2) :
    Calls Tryd.prog 3 #[.int .i64 b, .int .u64 n, .int .u64 m] w fun e w' => e = .returned (.bool true) ∧ Below w.heap.size w w' := by
  have h0 := shown_true w hE
  have hb2 : 2 ≤ b := by omega
  have hb16 : b ≤ 16 := by omega
  have K1 := Lib.hid fun w => Put_base b hb lo (by omega) w
  have K2 := Lib.hid fun w => Put_base b hb hi (by omega) w
  have hpart := fun k => part_lt (k := k) hb2 hb16 hle
  have hlen := put_le hb2 hle
  have hinj := fun h => put_inj (lo := lo) (hi := hi) hb2 hb16 h
  have hl1 : (putL b lo).length ≤ 64 := by rw [putL_length]; exact rdig_length b lo hb2 (by omega)
  have hl2 : (putL b hi).length ≤ 64 := by rw [putL_length]; exact rdig_length b hi hb2 (by omega)
  have hnm : lo = hi → (n : Int) = m := by omega
  generalize putL b lo = p at *
  generalize putL b hi = q at *
  have hs1 : (⟨p.toArray⟩ : ByteArray).size = p.length := rfl
  have hs2 : (⟨q.toArray⟩ : ByteArray).size = q.length := rfl
  clear hle hhi
  by_cases hl : p.length = q.length
  · rcases hb with rfl | rfl | rfl <;>
    · go_enter Tryd.func3, Tryd.ntmps3
      go_wp2_with fail
      refine h0.mono ?_
      rintro e w1 ⟨rfl, hB1⟩
      go_wp2_with fail
      refine (K1.out _).mono ?_
      rintro e w2 ⟨rfl, hB2⟩
      go_wp2_with fail
      refine (K2.out _).mono ?_
      rintro e w3 ⟨rfl, hB3⟩
      go_wp2_with fail
      go_loopw [10] (fun i wr => ∃ k : Nat, k ≤ q.length ∧ i = .int .i64 k ∧ p.take k = q.take k ∧ Below w3.heap.size w3 wr) (fun i _ => q.length - (intOf i).toNat)
      case atStart => exact ⟨0, Nat.zero_le _, rfl, rfl, Below.refl _ _⟩
      case round =>
        obtain ⟨k, hk, rfl, ht, hBr⟩ := hrel
        by_cases hlt : k < q.length
        · have hc1 : (k : Int) < q.length := by omega
          have hkp : k < p.length := by omega
          have hpe : (⟨p.toArray⟩ : ByteArray)[k]'hkp = p[k] := rfl
          have hqe : (⟨q.toArray⟩ : ByteArray)[k]'hlt = q[k] := rfl
          by_cases hAB : p[k] = q[k]
          · have ht2 : Hid (p.take (k + 1) = q.take (k + 1)) := by
              refine Lib.hid ?_
              rw [List.take_succ_eq_append_getElem hkp, List.take_succ_eq_append_getElem hlt, ht, hAB]
            have hne : (((((⟨p.toArray⟩ : ByteArray)[k]'hkp).toNat : Int) != (((⟨q.toArray⟩ : ByteArray)[k]'hlt).toNat : Int)) = false) := by
              rw [hpe, hqe, hAB]; simp
            clear hpe hqe hAB hpart hinj hnm hmin hmax hl
            go_wp2_with fail
            go_quiet (fail)
            go_wp2_with fail
            go_round
            case rel => exact ⟨k + 1, by omega, by go_num, ht2.out, below_drewN hBr _⟩
            case measure => simp [intOf]; omega
          · have hlt2 := hpart k hl hkp hlt ht hAB
            have hlt3 : ((((⟨p.toArray⟩ : ByteArray)[k]'hkp).toNat : Int) < (((⟨q.toArray⟩ : ByteArray)[k]'hlt).toNat : Int)) := by rw [hpe, hqe]; omega
            have hne : (((((⟨p.toArray⟩ : ByteArray)[k]'hkp).toNat : Int) != (((⟨q.toArray⟩ : ByteArray)[k]'hlt).toNat : Int)) = true) := by
              simp only [bne_iff_ne]; omega
            clear hpe hqe hAB hpart hinj hnm hmin hmax hl hlt2 ht
            go_wp2_with fail
            go_quiet (fail)
            go_wp2_with fail
            go_quiet (fail)
            go_wp2_with fail
            go_ret
            exact ⟨rfl, bthen (bthen (bthen hB1 hB2) hB3) (below_drewN (below_drewN hBr _) _)⟩
        · have hnm2 : (n : Int) = m := hnm (hinj (by rw [List.take_of_length_le (by omega), List.take_of_length_le (by omega)] at ht; exact ht))
          have hc1 : ((k : Int) < q.length) = False := by simp; omega
          clear hpart hinj hnm hmin hmax ht
          go_wp2_with fail
          go_ret
          exact ⟨rfl, bthen (bthen (bthen hB1 hB2) hB3) hBr⟩
  · have hlt : (p.length : Int) < q.length := by omega
    have hne : ((p.length : Int) = q.length) = False := by simp; omega
    rcases hb with rfl | rfl | rfl <;>
    · go_enter Tryd.func3, Tryd.ntmps3
      go_wp2_with fail
      refine h0.mono ?_
      rintro e w1 ⟨rfl, hB1⟩
      go_wp2_with fail
      refine (K1.out _).mono ?_
      rintro e w2 ⟨rfl, hB2⟩
      go_wp2_with fail
      refine (K2.out _).mono ?_
      rintro e w3 ⟨rfl, hB3⟩
      go_wp2_with fail
      go_ret
      exact ⟨rfl, bthen (bthen hB1 hB2) hB3⟩

theorem NumOrders_law (b n m : Int) (hb : (Lit.int .i64 b).wf = true) (hn : (Lit.int .u64 n).wf = true) (hm : (Lit.int .u64 m).wf = true) (w : World) {a1 a2 : Addr} (hE : NumErrs w a1 a2) :
    Calls Tryd.prog 3 #[.int .i64 b, .int .u64 n, .int .u64 m] w fun e w' => e = .returned (.bool true) ∧ Below w.heap.size w w' := by
  obtain ⟨n, rfl, hn'⟩ := u64_nat hn
  obtain ⟨m, rfl, hm'⟩ := u64_nat hm
  have h1 : Nat.min n m ≤ Nat.max n m := by simp only [Nat.min_def, Nat.max_def]; split <;> omega
  have h2 : Nat.max n m < 18446744073709551616 := by simp only [Nat.max_def]; split <;> omega
  have h3 : min (n : Int) m = (Nat.min n m : Nat) := by simp only [Nat.min_def]; split <;> omega
  have h4 : max (n : Int) m = (Nat.max n m : Nat) := by simp only [Nat.max_def]; split <;> omega
  by_cases h8 : b = 8
  · subst h8; exact orders_base 8 (by omega) n m _ _ h1 h2 h3 h4 w hE
  by_cases h10 : b = 10
  · subst h10; exact orders_base 10 (by omega) n m _ _ h1 h2 h3 h4 w hE
  by_cases h16 : b = 16
  · subst h16; exact orders_base 16 (by omega) n m _ _ h1 h2 h3 h4 w hE
  exact orders_none b hb h8 h10 h16 n m w hE
end Go.Proofs.YtdcgkkfpgpiejaaDoor
