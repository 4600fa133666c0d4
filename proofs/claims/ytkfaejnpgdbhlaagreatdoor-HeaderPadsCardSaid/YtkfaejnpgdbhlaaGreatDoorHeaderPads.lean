/-
  The statement HeaderPads: what is missing makes whole blocks, and is less than one. Its walk.
-/
import Derived.Test.YtkfaejnpgdbhlaaGreatDoorHeadShown
namespace Go.Proofs.YtkfaejnpgdbhlaaGreatDoor
open Go.RowKit

set_option maxRecDepth 100000 in
theorem HeaderPads_law (x : Int) (hx : (Lit.int .u64 x).wf = true) (w : World) {ea : Addr} (hE : PathErr w ea) :
    Calls Tryz.prog 6 #[.int .u64 x] w fun e w' => e = .returned (.bool true) ∧ Below w.heap.size w w' := by
  obtain ⟨n, rfl, hn⟩ := u64_nat hx
  have h0 := shown_true w hE
  by_cases hbig : 9223372036854775808 ≤ n
  · have hb : (9223372036854775808 : Int) ≤ (n : Int) := by omega
    clear hbig hn hx
    go_enter Tryz.func6, Tryz.ntmps6
    go_wp2_with fail
    refine h0.mono ?_
    rintro e w1 ⟨rfl, hB1⟩
    go_wp2_with fail
    go_ret
    exact ⟨rfl, hB1⟩
  · have hb : ((9223372036854775808 : Int) ≤ (n : Int)) = False := by simp; omega
    obtain ⟨k, hk⟩ : ∃ k, padN n = k := ⟨_, rfl⟩
    have hk1 : k < 512 := by rw [← hk]; unfold padN; omega
    have hk2 : (n + k) % 512 = 0 := by rw [← hk]; unfold padN; omega
    have K1 := Lib.hid fun W => Pad_any n hn W
    have K2 := Lib.hid fun W => Pad_any (n + k) (by omega) W
    have hp : padN (n + k) = 0 := by unfold padN; omega
    rw [hp] at K2
    rw [hk] at K1
    have hs : IntKind.u64.wrap ((n : Int) + k) = ((n + k : Nat) : Int) := by rw [IntKind.wrap_u64]; omega
    have hm : ((n + k : Nat) : Int).tmod 512 = 0 := by rw [Int.tmod_eq_emod_of_nonneg (by omega)]; omega
    generalize n + k = m at *
    clear hk hp hk2 hbig hn hx
    have hk3 : (k : Int) < 512 := by omega
    go_enter Tryz.func6, Tryz.ntmps6
    go_wp2_with fail
    refine h0.mono ?_
    rintro e w1 ⟨rfl, hB1⟩
    go_wp2_with fail
    refine (K1.out _).mono ?_
    rintro e w2 ⟨rfl, hw⟩
    replace hw := hw.symm
    subst hw
    go_wp2_with fail
    refine (K2.out _).mono ?_
    rintro e w2 ⟨rfl, hw⟩
    replace hw := hw.symm
    subst hw
    go_wp2_with fail
    go_ret
    exact ⟨rfl, hB1⟩
end Go.Proofs.YtkfaejnpgdbhlaaGreatDoor
