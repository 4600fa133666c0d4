/-
  header.Get of fewer than 512 bytes; and what the laws of layer 8 show first.
-/
import Derived.Test.YtkfaejnpgdbhlaaGreatDoorHeadPut
namespace Go.Proofs.YtkfaejnpgdbhlaaGreatDoor
open Go.RowKit

set_option maxRecDepth 100000 in
theorem Get_short (s : ByteArray) (hs : s.size < 512) (w : World) :
    Calls Tryz.prog 12 #[.string s] w fun e w' => e = .returned (.tuple #[headV ⟨#[]⟩ 0 0, .int .i64 s.size, .int .i64 10]) ∧ Below w.heap.size w w' := by
  have h1 : (s.size : Int) < 512 := by omega
  unfold headV
  go_enter Tryz.func12, Tryz.ntmps12
  go_wp2_with fail
  have hb := World.alloc_heap_new w (.cells #[.string ⟨#[]⟩, .int .u8 0, .int .u64 0] 25)
  have hB : Below w.heap.size w (w.alloc (.cells #[.string ⟨#[]⟩, .int .u8 0, .int .u64 0] 25)) := (Below.refl _ w).alloc (Nat.le_refl _) _
  generalize w.alloc (.cells #[.string ⟨#[]⟩, .int .u8 0, .int .u64 0] 25) = W at *
  have c0 : W.cell? ⟨w.heap.size, 0, none⟩ = some (.string ⟨#[]⟩) := by simp [World.cell?, hb]
  have c1 : W.cell? ⟨w.heap.size, 1, none⟩ = some (.int .u8 0) := by simp [World.cell?, hb]
  have c2 : W.cell? ⟨w.heap.size, 2, none⟩ = some (.int .u64 0) := by simp [World.cell?, hb]
  refine ⟨rfl, .tuple #[.agg #[.string ⟨#[]⟩, .int .u8 0, .int .u64 0], .int .i64 s.size, .int .i64 10], ?_, rfl, hB⟩
  simp only [results, Tryz.results12]
  go_simp

theorem put8_420 : putL 8 420 = [54, 52, 52] := by
  unfold putL
  rw [rdig_step (by omega), if_neg (by decide), rdig_step (by omega), if_neg (by decide), rdig_step (by omega), if_pos (by decide)]
  decide
theorem put8_0 : putL 8 0 = [48] := by
  unfold putL
  rw [rdig_step (by omega), if_pos (by decide)]
  decide
theorem put8_5 : putL 8 5 = [53] := by
  unfold putL
  rw [rdig_step (by omega), if_pos (by decide)]
  decide
theorem put8_3811 : putL 8 3811 = [55, 51, 52, 51] := by
  unfold putL
  rw [rdig_step (by omega), if_neg (by decide), rdig_step (by omega), if_neg (by decide), rdig_step (by omega), if_neg (by decide), rdig_step (by omega), if_pos (by decide)]
  decide

/-- The block that is shown. -/
def shownL : List UInt8 := summedL (flatW wids (textsL [] [97] 420 5 48 []))
theorem shown_sum : sumX (flatW wids (textsL [] [97] 420 5 48 [])) = 3811 := by
  simp only [textsL, fieldL, put8_420, put8_0, put8_5]
  decide +kernel
theorem shown_facts : shownL.length = 512 ∧ (shownL.drop 148).take 8 = [48, 48, 55, 51, 52, 51, 0, 32] := by
  unfold shownL summedL
  rw [shown_sum]
  simp only [textsL, fieldL, checkL, put8_420, put8_0, put8_5, put8_3811]
  exact ⟨by decide +kernel, by decide +kernel⟩
theorem shown_split : headL [97] 48 5 = some ([], [97]) := by
  have h1 : cutsL [97] = [[97]] := by decide
  have h2 : urest [97] = [] := by
    have e : udec [97] = some (97, 1) := by decide
    rw [urest_some e]
    exact urest_none (by decide)
  have h3 : rightL [97] = true := by
    unfold rightL
    rw [h1, h2]; decide
  simp [headL, splitL, h3]

set_option maxRecDepth 100000 in
theorem shown_true (w : World) {ea : Addr} (hE : PathErr w ea) :
    Calls Tryz.prog 11 #[] w fun e w' => e = .returned (.bool true) ∧ Below w.heap.size w w' := by
  obtain ⟨B, hB⟩ : ∃ B : ByteArray, (⟨shownL.toArray⟩ : ByteArray) = B := ⟨_, rfl⟩
  have K : Calls Tryz.prog 17 #[.agg #[.string ⟨#[97]⟩, .int .u8 48, .int .u64 5]] w fun e w' => e = .returned (.tuple #[.string B, .int .i64 0]) ∧ Below w.heap.size w w' := by
    rw [← hB]
    exact PutH_some ⟨#[97]⟩ (by decide) 48 5 [] [97] shown_split w hE
  have hz : B.size = 512 := by rw [← hB]; exact shown_facts.1
  have hx : B.extract 148 156 = ⟨#[48, 48, 55, 51, 52, 51, 0, 32]⟩ := by
    rw [← hB]
    apply ByteArray.ext
    apply Array.toList_inj.1
    refine (sub_list _ 148 156).trans ?_
    have e : (⟨shownL.toArray⟩ : ByteArray).data.toList = shownL := rfl
    rw [e]
    rw [List.drop_take]
    exact shown_facts.2
  have KG := Lib.hid fun W => Get_short ⟨#[120]⟩ (by decide) W
  have KP : Hid (∀ W, Calls Tryz.prog 18 #[.int .u64 513] W fun e w' => e = .returned (.int .u64 511) ∧ w' = W) := Lib.hid fun W => Pad_any 513 (by omega) W
  replace K := Lib.hid K
  clear hB
  go_enter Tryz.func11, Tryz.ntmps11
  go_wp2_with fail
  refine K.out.mono ?_
  rintro e w1 ⟨rfl, hB1⟩
  go_wp2_with fail
  refine (KG.out _).mono ?_
  rintro e w2 ⟨rfl, hB2⟩
  unfold headV
  go_wp2_with fail
  refine (KP.out _).mono ?_
  rintro e w3 ⟨rfl, hw⟩
  replace hw := hw.symm
  subst hw
  go_wp2_with fail
  go_ret
  exact ⟨rfl, (hB1.trans (hB2.mono hB1.size)).alloc (by have := hB1.size; have := hB2.size; omega) _⟩
end Go.Proofs.YtkfaejnpgdbhlaaGreatDoor
