/-
  The reference package's is, digit and Put, by contract.
-/
import Derived.Test.YtdcgkkfpgpiejaaDoorNumShort
import Derived.Deep.QuietTactic
import Derived.BigQuiet
import Derived.LoopTactic
namespace Go.Proofs.YtdcgkkfpgpiejaaDoor
open Go.RowKit

theorem ref_is (b : Nat) (hb : b = 8 ∨ b = 10 ∨ b = 16) (w : World) :
    Calls Tryd.prog 32 #[.int .i64 b] w fun e w' => e = .returned (.bool true) ∧ w = w' := by
  rcases hb with rfl | rfl | rfl <;>
  · go_enter Tryd.func32, Tryd.ntmps32
    go_wp2
    go_ret
    exact ⟨rfl, rfl⟩

theorem ref_is_no (b : Int) (h8 : b ≠ 8) (h10 : b ≠ 10) (h16 : b ≠ 16) (w : World) :
    Calls Tryd.prog 32 #[.int .i64 b] w fun e w' => e = .returned (.bool false) ∧ w = w' := by
  have g8 : (b == 8) = false := by simpa using h8
  have g10 : (b == 10) = false := by simpa using h10
  have g16 : (b == 16) = false := by simpa using h16
  clear h8 h10 h16
  go_enter Tryd.func32, Tryd.ntmps32
  go_wp2
  go_ret
  exact ⟨rfl, rfl⟩

/-- What the reference reads in one byte. -/
def refd (c : Nat) : Nat := if 48 ≤ c ∧ c ≤ 57 then c - 48 else if 97 ≤ c ∧ c ≤ 102 then c - 87 else if 65 ≤ c ∧ c ≤ 70 then c - 55 else 99

theorem ref_digit (c : Nat) (hc : c < 256) (w : World) :
    Calls Tryd.prog 33 #[.int .u8 c] w fun e w' => e = .returned (.int .u64 (refd c)) ∧ w = w' := by
  have h0 : (0 : Int) ≤ c := by omega
  by_cases h1 : 48 ≤ c ∧ c ≤ 57
  · have e : refd c = c - 48 := by unfold refd; rw [if_pos h1]
    have e2 : ((c - 48 : Nat) : Int) = (c : Int) - 48 := by omega
    rw [e, e2]
    have c1 : (48 : Int) ≤ c := by omega
    have c2 : (c : Int) ≤ 57 := by omega
    go_enter Tryd.func33, Tryd.ntmps33
    go_wp2
    go_ret
    exact ⟨rfl, rfl⟩
  by_cases h2 : 97 ≤ c ∧ c ≤ 102
  · have e : refd c = c - 87 := by unfold refd; rw [if_neg h1, if_pos h2]
    have e2 : ((c - 87 : Nat) : Int) = (c : Int) - 97 + 10 := by omega
    rw [e, e2]
    have c1 : (97 : Int) ≤ c := by omega
    have c2 : (c : Int) ≤ 102 := by omega
    go_enter Tryd.func33, Tryd.ntmps33
    go_wp2
    go_ret
    exact ⟨rfl, rfl⟩
  by_cases h3 : 65 ≤ c ∧ c ≤ 70
  · have e : refd c = c - 55 := by unfold refd; rw [if_neg h1, if_neg h2, if_pos h3]
    have e2 : ((c - 55 : Nat) : Int) = (c : Int) - 65 + 10 := by omega
    rw [e, e2]
    have c1 : (65 : Int) ≤ c := by omega
    have c2 : (c : Int) ≤ 70 := by omega
    go_enter Tryd.func33, Tryd.ntmps33
    go_wp2
    go_ret
    exact ⟨rfl, rfl⟩
  have e : refd c = 99 := by unfold refd; rw [if_neg h1, if_neg h2, if_neg h3]
  rw [e]
  rcases (show (c < 48) ∨ (57 < c ∧ c < 65) ∨ (70 < c ∧ c < 97) ∨ (102 < c) by omega) with h | h | h | h
  · clear h1 h2 h3 e
    have t0 : ((48 : Int) ≤ c) = False := by simp; omega
    have t1 : ((c : Int) ≤ 57) = True := by simp; omega
    have t2 : ((97 : Int) ≤ c) = False := by simp; omega
    have t3 : ((c : Int) ≤ 102) = True := by simp; omega
    have t4 : ((65 : Int) ≤ c) = False := by simp; omega
    have t5 : ((c : Int) ≤ 70) = True := by simp; omega
    clear h h0
    go_enter Tryd.func33, Tryd.ntmps33
    go_wp2
    go_ret
    exact ⟨rfl, rfl⟩
  · clear h1 h2 h3 e
    have t0 : ((48 : Int) ≤ c) = True := by simp; omega
    have t1 : ((c : Int) ≤ 57) = False := by simp; omega
    have t2 : ((97 : Int) ≤ c) = False := by simp; omega
    have t3 : ((c : Int) ≤ 102) = True := by simp; omega
    have t4 : ((65 : Int) ≤ c) = False := by simp; omega
    have t5 : ((c : Int) ≤ 70) = True := by simp; omega
    clear h h0
    go_enter Tryd.func33, Tryd.ntmps33
    go_wp2
    go_ret
    exact ⟨rfl, rfl⟩
  · clear h1 h2 h3 e
    have t0 : ((48 : Int) ≤ c) = True := by simp; omega
    have t1 : ((c : Int) ≤ 57) = False := by simp; omega
    have t2 : ((97 : Int) ≤ c) = False := by simp; omega
    have t3 : ((c : Int) ≤ 102) = True := by simp; omega
    have t4 : ((65 : Int) ≤ c) = True := by simp; omega
    have t5 : ((c : Int) ≤ 70) = False := by simp; omega
    clear h h0
    go_enter Tryd.func33, Tryd.ntmps33
    go_wp2
    go_ret
    exact ⟨rfl, rfl⟩
  · clear h1 h2 h3 e
    have t0 : ((48 : Int) ≤ c) = True := by simp; omega
    have t1 : ((c : Int) ≤ 57) = False := by simp; omega
    have t2 : ((97 : Int) ≤ c) = True := by simp; omega
    have t3 : ((c : Int) ≤ 102) = False := by simp; omega
    have t4 : ((65 : Int) ≤ c) = True := by simp; omega
    have t5 : ((c : Int) ≤ 70) = False := by simp; omega
    clear h h0
    go_enter Tryd.func33, Tryd.ntmps33
    go_wp2
    go_ret
    exact ⟨rfl, rfl⟩

theorem ref_Put_none (b : Int) (h8 : b ≠ 8) (h10 : b ≠ 10) (h16 : b ≠ 16) (n : Int) (w : World) :
    Calls Tryd.prog 25 #[.int .i64 b, .int .u64 n] w fun e w' => e = .returned (.string ⟨#[]⟩) ∧ w = w' := by
  have K := ref_is_no b h8 h10 h16 w
  go_enter Tryd.func25, Tryd.ntmps25
  go_wp2_with fail
  refine K.mono ?_
  rintro e w' ⟨rfl, rfl⟩
  go_wp2_with fail
  go_ret
  exact ⟨rfl, rfl⟩

theorem digit_at (r : Nat) (h : r < 16) : (⟨#[48, 49, 50, 51, 52, 53, 54, 55, 56, 57, 97, 98, 99, 100, 101, 102]⟩ : ByteArray).extract r (r + 1) = ⟨#[UInt8.ofNat (code r)]⟩ := by
  have : ∀ r : Fin 16, (⟨#[48, 49, 50, 51, 52, 53, 54, 55, 56, 57, 97, 98, 99, 100, 101, 102]⟩ : ByteArray).extract r.val (r.val + 1) = ⟨#[UInt8.ofNat (code r.val)]⟩ := by decide +kernel
  exact this ⟨r, h⟩

theorem putL_step {b n : Nat} (hb2 : 2 ≤ b) (h : b ≤ n) : putL b n = putL b (n / b) ++ [UInt8.ofNat (code (n % b))] := by
  have h0 : n / b ≠ 0 := by
    intro e
    rcases (Nat.div_eq_zero_iff).1 e with h | h <;> omega
  rw [putL_dig, dig_step hb2, if_neg h0, List.map_append]; rfl

set_option maxRecDepth 100000 in
set_option maxHeartbeats 2000000 in
theorem ref_Put_base (b : Nat) (hb : b = 8 ∨ b = 10 ∨ b = 16) : ∀ (n : Nat) (_ : n < 18446744073709551616) (w : World),
    Calls Tryd.prog 25 #[.int .i64 b, .int .u64 n] w fun e w' => e = .returned (.string ⟨(putL b n).toArray⟩) ∧ Below w.heap.size w w' := by
  intro n
  induction n using Nat.strongRecOn with
  | _ n ih =>
    intro hn w
    have K1 := Lib.hid (ref_is b hb w)
    have hb2 : 2 ≤ b := by omega
    have hb16 : b ≤ 16 := by omega
    have hw8 : IntKind.u64.wrap (b : Int) = b := by rw [IntKind.wrap_u64]; omega
    have hr : n % b < b := Nat.mod_lt _ (by omega)
    have hmod : (n : Int) % b = ((n % b : Nat) : Int) := by simp
    have hstep := fun h => putL_step (n := n) hb2 h
    have hone : n < b → putL b n = [UInt8.ofNat (code (n % b))] := fun h => by rw [putL_dig, dig_one hb2 h, Nat.mod_eq_of_lt h]; rfl
    have hl1 : (putL b (n / b)).length ≤ 64 := by rw [putL_length]; exact rdig_length b _ hb2 (Nat.lt_of_le_of_lt (Nat.div_le_self n b) hn)
    have KP : b ≤ n → Hid (∀ w, Calls Tryd.prog 25 #[.int .i64 b, .int .u64 ((n : Int) / b)] w fun e w' => e = .returned (.string ⟨(putL b (n / b)).toArray⟩) ∧ Below w.heap.size w w') := fun h => Lib.hid fun w => by
      have := ih (n / b) (Nat.div_lt_self (by omega) hb2) (Nat.lt_of_le_of_lt (Nat.div_le_self n b) hn) w
      rwa [Int.natCast_ediv] at this
    have hwq : IntKind.u64.wrap ((n : Int) / b) = (n : Int) / b := by
      have h1 : n / b ≤ n := Nat.div_le_self n b
      have key : ∀ q : Nat, q ≤ n → IntKind.u64.wrap (q : Int) = q := fun q hq => by rw [IntKind.wrap_u64]; omega
      have := key (n / b) h1
      rwa [Int.natCast_ediv] at this
    generalize putL b (n / b) = p at *
    generalize n % b = r at *
    have hex := digit_at r (by omega)
    have hwr1 : IntKind.u64.wrap ((r : Int) + 1) = (r : Int) + 1 := by rw [IntKind.wrap_u64]; omega
    have b1 : (0 : Int) ≤ r := by omega
    have b2 : (r : Int) ≤ (r : Int) + 1 := by omega
    have b3 : (r : Int) + 1 ≤ 16 := by omega
    have b4 : (0 : Int) ≤ (r : Int) + 1 := by omega
    have b5 : ((r : Int) + 1).toNat = r + 1 := by omega
    generalize UInt8.ofNat (code r) = c at *
    have hs1 : (⟨p.toArray⟩ : ByteArray).size + (⟨#[c]⟩ : ByteArray).size ≤ 9223372036854775807 := by simp [ByteArray.size]; omega
    have hs2 := fun w2 => run_string_add_sum (P := Tryd.prog) w2 _ _ hs1
    rw [show (⟨p.toArray⟩ : ByteArray) ++ (⟨#[c]⟩ : ByteArray) = ⟨(p ++ [c]).toArray⟩ from by apply ByteArray.ext; simp] at hs2
    clear ih hs1 hn hb2 hb16 hr hl1
    by_cases hlt : n < b
    · rw [hone hlt]
      clear hone hstep hs2 KP hwq
      rcases hb with rfl | rfl | rfl <;>
      · simp only [Int.cast_ofNat_Int] at hmod hw8
        go_enter Tryd.func25, Tryd.ntmps25
        go_wp2_with fail
        refine K1.out.mono ?_
        rintro e w' ⟨rfl, rfl⟩
        go_wp2_with fail
        go_quiet (fail)
        go_wp2_with fail
        go_ret
        exact ⟨rfl, below_drewN (Below.refl _ _) _⟩
    · have KP := KP (by omega)
      rw [hstep (by omega)]
      clear hone hstep
      have hlt2 : ((n : Int) < b) = False := by simp; omega
      clear hlt
      rcases hb with rfl | rfl | rfl <;>
      · simp only [Int.cast_ofNat_Int] at hmod hw8 hlt2 KP hwq
        go_enter Tryd.func25, Tryd.ntmps25
        go_wp2_with fail
        refine K1.out.mono ?_
        rintro e w' ⟨rfl, rfl⟩
        go_wp2_with fail
        go_quiet (fail)
        go_wp2_with fail
        refine (KP.out _).mono ?_
        rintro e w2 ⟨rfl, hB2⟩
        go_wp2_with fail
        go_ret
        exact ⟨rfl, bthen (below_drewN (Below.refl _ _) _) hB2⟩
end Go.Proofs.YtdcgkkfpgpiejaaDoor
