/-
  The helper 'shown' of the statements of package num answers true, in every world in which num's two error variables hold two different pointers.
-/
import Derived.Test.YtdcgkkfpgpiejaaDoorNumLaw
namespace Go.Proofs.YtdcgkkfpgpiejaaDoor
open Go.RowKit

theorem put16_255 : putL 16 255 = [102, 102] := by
  simp [putL, rdig_step (b := 16) (by decide), code]
theorem put8_511 : putL 8 511 = [55, 55, 55] := by
  simp [putL, rdig_step (b := 8) (by decide), code]
theorem field7_511 : fieldL 7 511 = [48, 48, 48, 48, 55, 55, 55] := by
  simp [fieldL, put8_511]
theorem get_Ff : getN 16 [70, 102] = some 255 := by decide +kernel
theorem get_big : getN 10 [49, 56, 52, 52, 54, 55, 52, 52, 48, 55, 51, 55, 48, 57, 53, 53, 49, 54, 49, 54] = none := by decide +kernel

set_option maxRecDepth 100000 in
set_option maxHeartbeats 1000000 in
theorem shown_true (w : World) {a1 a2 : Addr} (hE : NumErrs w a1 a2) :
    Calls Tryd.prog 11 #[] w fun e w' => e = .returned (.bool true) ∧ Below w.heap.size w w' := by
  have k1 : Calls Tryd.prog 16 #[.int .i64 7, .int .u64 511] w fun e w' => e = .returned (.tuple #[.string ⟨#[48, 48, 48, 48, 55, 55, 55]⟩, .int .i64 0]) ∧ Below w.heap.size w w' := by
    have := Field_ok 7 (by omega) 511 (by omega) (by rw [put8_511]; decide) w
    rwa [field7_511] at this
  have k2 : ∀ w, NumErrs w a1 a2 → Calls Tryd.prog 15 #[.int .i64 16, .string ⟨#[70, 102]⟩] w fun e w' => e = .returned (.tuple #[.int .u64 255, .int .i64 0]) ∧ Below w.heap.size w w' := fun w h => by
    have := Get_base 16 (by omega) ⟨#[70, 102]⟩ (by decide) w h
    rwa [show (⟨#[70, 102]⟩ : ByteArray).data.toList = [70, 102] from rfl, get_Ff] at this
  have k3 : ∀ w, NumErrs w a1 a2 → Calls Tryd.prog 15 #[.int .i64 10, .string ⟨#[49, 56, 52, 52, 54, 55, 52, 52, 48, 55, 51, 55, 48, 57, 53, 53, 49, 54, 49, 54]⟩] w fun e w' => e = .returned (.tuple #[.int .u64 0, .int .i64 30]) ∧ Below w.heap.size w w' := fun w h => by
    have := Get_base 10 (by omega) ⟨#[49, 56, 52, 52, 54, 55, 52, 52, 48, 55, 51, 55, 48, 57, 53, 53, 49, 54, 49, 54]⟩ (by decide) w h
    rwa [show (⟨#[49, 56, 52, 52, 54, 55, 52, 52, 48, 55, 51, 55, 48, 57, 53, 53, 49, 54, 49, 54]⟩ : ByteArray).data.toList = [49, 56, 52, 52, 54, 55, 52, 52, 48, 55, 51, 55, 48, 57, 53, 53, 49, 54, 49, 54] from rfl, get_big] at this
  have k4 : ∀ w, Calls Tryd.prog 12 #[.int .i64 16, .int .u64 255] w fun e w' => e = .returned (.string ⟨#[102, 102]⟩) ∧ Below w.heap.size w w' := fun w => by
    have := Put_base 16 (by omega) 255 (by omega) w
    rwa [put16_255] at this
  have k5 : ∀ w, Calls Tryd.prog 13 #[.string ⟨#[97, 98]⟩] w fun e w' => e = .returned (.int .u64 195) ∧ Below w.heap.size w w' := fun w => Sum_any ⟨#[97, 98]⟩ (by decide) w
  have K2 := Lib.hid k2
  have K3 := Lib.hid k3
  have K4 := Lib.hid k4
  have K5 := Lib.hid k5
  clear k2 k3 k4 k5
  go_enter Tryd.func11, Tryd.ntmps11
  go_wp2_with fail
  refine k1.mono ?_
  rintro e w1 ⟨rfl, hB1⟩
  have hE1 := hE.below hB1
  go_wp2_with fail
  refine (K2.out _ hE1).mono ?_
  rintro e w2 ⟨rfl, hB2⟩
  have hE2 := hE1.below hB2
  go_wp2_with fail
  refine (K3.out _ hE2).mono ?_
  rintro e w3 ⟨rfl, hB3⟩
  go_wp2_with fail
  refine (K4.out _).mono ?_
  rintro e w4 ⟨rfl, hB4⟩
  go_wp2_with fail
  refine (K5.out _).mono ?_
  rintro e w5 ⟨rfl, hB5⟩
  go_wp2_with fail
  go_ret
  have b2 := hB1.trans (hB2.mono hB1.size)
  have b3 := b2.trans (hB3.mono b2.size)
  have b4 := b3.trans (hB4.mono b3.size)
  exact ⟨rfl, b4.trans (hB5.mono b4.size)⟩
end Go.Proofs.YtdcgkkfpgpiejaaDoor
