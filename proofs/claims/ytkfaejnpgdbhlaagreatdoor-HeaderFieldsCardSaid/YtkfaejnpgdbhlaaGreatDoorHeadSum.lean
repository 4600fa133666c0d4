/-
  header's sum of a block by contract.
-/
import Derived.Test.YtkfaejnpgdbhlaaGreatDoorHeadSmall
import Derived.Deep.RegionHeld3
import Derived.Deep.TreeCalls
namespace Go.Proofs.YtkfaejnpgdbhlaaGreatDoor
open Go.RowKit

/-- Bytes as cells. -/
def byteRow (l : List UInt8) : Obj := .cells (Lib.byteCells l).toArray 5 (0, 0)
/-- A block: where its bytes are. -/
structure BlockAt (W : World) (xb g : Nat) (l : List UInt8) : Prop where
  x : W.cell? ⟨xb, 0, none⟩ = some (.slice (some ⟨g, 0, none⟩) 512 512)
  row : W.heap[g]? = some (byteRow l)
theorem BlockAt.below {W W' : World} {xb g : Nat} {l : List UInt8} (h : BlockAt W xb g l) (hb : Below W.heap.size W W') : BlockAt W' xb g l :=
  ⟨(hb.cell (World.block_lt_of_cell? _ _ h.x)).trans h.x, (hb.block _ (lt_block h.row)).trans h.row⟩

theorem row_cell {W : World} {g : Nat} {l : List UInt8} (h : W.heap[g]? = some (byteRow l)) {j : Nat} (hj : j < l.length) : W.cell? ⟨g, j, none⟩ = some (.int .u8 (l[j].toNat : Int)) := by
  simp [World.cell?, h, byteRow, Lib.byteCells, hj]

theorem conv_part {W : World} {g n k cap : Nat} {l : List UInt8} (h : W.heap[g]? = some (byteRow l)) (hk : n + k ≤ l.length) :
    (convert 35 9 (.slice (some ⟨g, n, none⟩) k cap)).run Tryz.prog W = .ok (.string ⟨((l.drop n).take k).toArray⟩) W := by
  have hl : ((l.drop n).take k).length = k := by rw [List.length_take, List.length_drop]; omega
  have := run_convert_bytes_back W 35 9 5 ⟨g, n, none⟩ cap ((l.drop n).take k) Tryz.underlying35 Tryz.underlying5 Tryz.underlying9 fun j hj => ?_
  · rwa [hl] at this
  · rw [hl] at hj
    have e : Addr.add ⟨g, n, none⟩ j = ⟨g, n + j, none⟩ := by simp only [Addr.add]; split <;> simp_all
    rw [e, row_cell h (by omega)]
    simp

set_option maxRecDepth 100000 in
set_option maxHeartbeats 1000000 in
theorem sum_any (xb g : Nat) (l : List UInt8) (hl : l.length = 512) (w : World) (h : BlockAt w xb g l) :
    Calls Tryz.prog 37 #[.pointer (some ⟨xb, 0, none⟩)] w fun e w' => e = .returned (.int .u64 (sumX l)) ∧ Below w.heap.size w w' := by
  obtain ⟨p, hp⟩ : ∃ p, (l.drop 148).take 8 = p := ⟨_, rfl⟩
  have hpl : p.length = 8 := by rw [← hp, List.length_take, List.length_drop]; omega
  have hc0 : ∀ W, W.heap[g]? = some (byteRow l) → (convert 35 9 (.slice (some ⟨g, 0, none⟩) 512 512)).run Tryz.prog W = .ok (.string ⟨l.toArray⟩) W := fun W h => by
    have := conv_part (n := 0) (k := 512) (cap := 512) h (by omega)
    rwa [List.drop_zero, List.take_of_length_le (by omega)] at this
  have hc1 : ∀ W, W.heap[g]? = some (byteRow l) → (convert 35 9 (.slice (some ⟨g, 148, none⟩) 8 364)).run Tryz.prog W = .ok (.string ⟨p.toArray⟩) W := fun W h => hp ▸ conv_part h (by omega)
  have K0 : Hid (∀ W, Calls Tryz.prog 60 #[.string ⟨l.toArray⟩] W fun e w' => e = .returned (.int .u64 (sumB l)) ∧ Below W.heap.size W w') := Lib.hid fun W => Sum_any ⟨l.toArray⟩ (by simp [ByteArray.size]; omega) W
  have K1 : Hid (∀ W, Calls Tryz.prog 60 #[.string ⟨p.toArray⟩] W fun e w' => e = .returned (.int .u64 (sumB p)) ∧ Below W.heap.size W w') := Lib.hid fun W => Sum_any ⟨p.toArray⟩ (by simp [ByteArray.size]; omega) W
  have K2 : Hid (∀ W, Calls Tryz.prog 60 #[.string ⟨#[32, 32, 32, 32, 32, 32, 32, 32]⟩] W fun e w' => e = .returned (.int .u64 256) ∧ Below W.heap.size W w') := Lib.hid fun W => Sum_any ⟨#[32, 32, 32, 32, 32, 32, 32, 32]⟩ (by simp [ByteArray.size]) W
  have hs1 := sumB_le l
  have hs2 : sumB p ≤ sumB l := by
    have e : l = l.take 148 ++ ((l.drop 148).take 8 ++ (l.drop 148).drop 8) := by rw [List.take_append_drop, List.take_append_drop]
    rw [hp] at e
    rw [e, sumB_append, sumB_append]; omega
  have E : Hid (((sumX l : Nat) : Int) = (sumB l : Int) - sumB p + 256) := Lib.hid (by unfold sumX; rw [hp]; omega)
  have hsub : IntKind.u64.wrap ((sumB l : Int) - sumB p) = (sumB l : Int) - sumB p := by rw [IntKind.wrap_u64]; omega
  have hadd : IntKind.u64.wrap ((sumB l : Int) - sumB p + 256) = (sumB l : Int) - sumB p + 256 := by rw [IntKind.wrap_u64]; omega
  clear hp
  go_enter Tryz.func37, Tryz.ntmps37
  go_wp2
  go_region_held3 (fun w' => w'.cell? ⟨xb, 0, none⟩ = some (.slice (some ⟨g, 0, none⟩) 512 512) ∧
     (convert 35 9 (.slice (some ⟨g, 0, none⟩) 512 512)).run Tryz.prog w' = .ok (.string ⟨l.toArray⟩) w' ∧
     (convert 35 9 (.slice (some ⟨g, 148, none⟩) 8 364)).run Tryz.prog w' = .ok (.string ⟨p.toArray⟩) w' ∧ w'.heap[g]? = some (byteRow l) ∧ Below w.heap.size w w')
    (first | exact ⟨h.x, hc0 _ h.row, hc1 _ h.row, h.row, (Below.refl _ _).drew⟩ | exact ⟨t1, hc0 _ t4, hc1 _ t4, t4, t5⟩)
    (first | (go_at_call 60; (first | (go_at_call_of 60 p; refine (K1.out _).mono ?_) | (go_at_call_of 60 l; refine (K0.out _).mono ?_) | refine (K2.out _).mono ?_); rintro e w' ⟨rfl, hB⟩; rename_i hH _ _; obtain ⟨s1, _, _, s4, s5⟩ := hH; have t1 := (hB.cell (World.block_lt_of_cell? _ _ s1)).trans s1; have t4 := (hB.block _ (lt_block s4)).trans s4; have t5 := s5.trans (hB.mono s5.size)))
  go_wp2
  go_ret
  exact ⟨by rw [E.out]; rfl, t5⟩
end Go.Proofs.YtkfaejnpgdbhlaaGreatDoor
