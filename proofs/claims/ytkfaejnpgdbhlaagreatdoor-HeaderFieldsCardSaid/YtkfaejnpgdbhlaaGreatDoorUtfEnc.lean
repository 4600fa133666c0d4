/-
  Package utf's head and Encode, by contract.
-/
import Derived.Test.YtkfaejnpgdbhlaaGreatDoorUtfRune
import Derived.Test.YtkfaejnpgdbhlaaGreatDoorNumPut
namespace Go.Proofs.YtkfaejnpgdbhlaaGreatDoor
open Go.RowKit

/-- How many bytes a rune has. -/
def ulen (r : Nat) : Nat := if r < 128 then 1 else if r < 2048 then 2 else if r < 65536 then 3 else 4

set_option maxRecDepth 100000 in
theorem Encode_bad (r : Int) (h : isScal r = false) (w : World) :
    Calls Tryz.prog 184 #[.int .i64 r] w fun e w' => e = .returned (.tuple #[.string ⟨#[]⟩, .int .i64 20]) ∧ Below w.heap.size w w' := by
  have K := isRune_any r w
  rw [h] at K
  go_enter Tryz.func184, Tryz.ntmps184
  go_wp2_with fail
  refine K.mono ?_
  rintro e w1 ⟨rfl, hB⟩
  go_wp2_with fail
  go_ret2
  exact ⟨rfl, hB⟩

theorem row_one (w : World) (x : Value) (t : TypeId) : (w.alloc (.cells #[x] t)).ownsRow w.heap.size t 1 (.slice (some ⟨w.heap.size, 0, none⟩) 1 1) 1 [x] :=
  ⟨by simp, .inr ⟨w.heap.size, 1, #[x], rfl, Nat.le_refl _, heap_alloc_new w _, by omega, by unfold maxLen; omega, rfl, by simp⟩⟩
theorem byteVal (z : Int) : (Value.int .u8 ((UInt8.ofNat (z % 256).toNat).toNat : Int)) = .int .u8 (z % 256) := by
  congr 1; simp; omega

set_option maxRecDepth 100000 in
set_option maxHeartbeats 1000000 in
theorem Encode_one (r : Nat) (h : isScal r = true) (h4 : r < 128) (w : World) :
    Calls Tryz.prog 184 #[.int .i64 r] w fun e w' => (∃ s : ByteArray, e = .returned (.tuple #[.string s, .int .i64 0]) ∧ s.size = 1) ∧ Below w.heap.size w w' := by
  obtain ⟨i0, hi, hz0, hz1, hz2⟩ := info_parts infoByte
  have K := isRune_any r w
  rw [h] at K
  have t0 : ((65536 : Int) ≤ r) = False := by simp; omega
  have t1 : ((2048 : Int) ≤ r) = False := by simp; omega
  have t2 : ((128 : Int) ≤ r) = False := by simp; omega
  go_enter Tryz.func184, Tryz.ntmps184
  go_wp2_with fail
  refine K.mono ?_
  rintro e w1 ⟨rfl, hB⟩
  clear K
  go_wp2_with fail
  clear t0 t1 t2 h4 h
  go_loopw [5, 6] (fun sh v wr => ∃ (j : Nat) (l : List UInt8), sh = .int .i64 (6 * (j : Int)) ∧ j ≤ 3 ∧ l.length + j = 1 ∧ wr.ownsRow w1.heap.size 5 1 v l.length (l.map fun c => .int .u8 (c.toNat : Int)) ∧ Below w.heap.size w wr ∧ w1.heap.size ≤ wr.heap.size) (fun sh _ _ => (intOf sh).toNat)
  case atStart =>
    have hr1 := row_one w1 (.int .u8 (bits BinOp.or IntKind.i64 0 (r : Int) % 256)) 5
    generalize bits BinOp.or IntKind.i64 0 (r : Int) = z at *
    refine ⟨0, [UInt8.ofNat (z % 256).toNat], by simp, by omega, by simp, ?_, hB.alloc hB.size _, by simp⟩
    rw [List.map_singleton, byteVal]
    exact hr1
  case round =>
    obtain ⟨j, l, rfl, hj, hl, hrow, hBr, hsz⟩ := hrel
    cases j with
    | zero =>
      obtain ⟨k, hk⟩ : ∃ k, l.length = k + 1 := ⟨l.length - 1, by omega⟩
      rw [hk] at hrow
      obtain ⟨g, cap, rfl⟩ := ownsRow_succ hrow
      have hcv := run_convert_bytes_back wr 35 9 5 ⟨g, 0, none⟩ cap l Tryz.underlying35 Tryz.underlying5 Tryz.underlying9 (fun j hj => hrow.cells rfl j _ (by simp [hj]))
      rw [hk] at hcv
      have hsl : (⟨l.toArray⟩ : ByteArray).size = l.length := rfl
      clear hrow
      go_wp2_with fail
      go_ret2
      exact ⟨⟨_, rfl, by rw [hsl]; omega⟩, hBr⟩
    | succ j =>
      have e1 : 6 * ((j : Int) + 1) - 6 = 6 * (j : Int) := by omega
      have e2 : (0 : Int) < 6 * ((j + 1 : Nat) : Int) := by omega
      have e3 : (0 : Int) ≤ 6 * (j : Int) := by omega
      go_wp2_with (at_builtin; refine wpList_append_own _ rfl _ _ 35 rfl w1.heap.size 5 i0 (.int .u8 0) 1 1 Tryz.underlying35 hi hz0 hz1 hz2 rfl (by decide) _ _ _ rfl (hrow.alloc _) ⟨wr.heap.size, 0, none⟩ 1 1 [.int .u8 _] rfl rfl (cell_one_new _ _ _) (by simp [Value.oneCell']) (by unfold maxLen; omega) (by omega) (by simp; omega) ?_; intro v' w2 hown' hgrow _)
      generalize bits BinOp.or IntKind.i64 128 (bits BinOp.and IntKind.i64 ((r : Int) / 2 ^ (6 * j)) 63) = z at *
      have hg2 : (wr.alloc (.cells #[.int .u8 (z % 256)] 5)).grownBy w2 u6.ownBlock := hgrow
      have hz := hg2.size
      simp only [World.size_alloc] at hz
      refine ⟨⟨j, l ++ [UInt8.ofNat (z % 256).toNat], rfl, by omega, by simp; omega, ?_, (hBr.alloc hBr.size _).grown hg2 (by have := hBr.size; simp; omega) (fun k e => Nat.le_trans hB.size (hrow.lt k e).1), by omega⟩, by simp [intOf]; omega⟩
      rw [List.length_append, List.length_singleton, List.map_append, List.map_singleton, byteVal]
      exact hown'

set_option maxRecDepth 100000 in
set_option maxHeartbeats 1000000 in
theorem Encode_two (r : Nat) (h : isScal r = true) (h4 : 128 ≤ r ∧ r < 2048) (w : World) :
    Calls Tryz.prog 184 #[.int .i64 r] w fun e w' => (∃ s : ByteArray, e = .returned (.tuple #[.string s, .int .i64 0]) ∧ s.size = 2) ∧ Below w.heap.size w w' := by
  obtain ⟨i0, hi, hz0, hz1, hz2⟩ := info_parts infoByte
  have K := isRune_any r w
  rw [h] at K
  have t0 : ((65536 : Int) ≤ r) = False := by simp; omega
  have t1 : ((2048 : Int) ≤ r) = False := by simp; omega
  have t2 : ((128 : Int) ≤ r) = True := by simp; omega
  go_enter Tryz.func184, Tryz.ntmps184
  go_wp2_with fail
  refine K.mono ?_
  rintro e w1 ⟨rfl, hB⟩
  clear K
  go_wp2_with fail
  clear t0 t1 t2 h4 h
  go_loopw [5, 6] (fun sh v wr => ∃ (j : Nat) (l : List UInt8), sh = .int .i64 (6 * (j : Int)) ∧ j ≤ 3 ∧ l.length + j = 2 ∧ wr.ownsRow w1.heap.size 5 1 v l.length (l.map fun c => .int .u8 (c.toNat : Int)) ∧ Below w.heap.size w wr ∧ w1.heap.size ≤ wr.heap.size) (fun sh _ _ => (intOf sh).toNat)
  case atStart =>
    have hr1 := row_one w1 (.int .u8 (bits BinOp.or IntKind.i64 192 ((r : Int) / 64) % 256)) 5
    generalize bits BinOp.or IntKind.i64 192 ((r : Int) / 64) = z at *
    refine ⟨1, [UInt8.ofNat (z % 256).toNat], by simp, by omega, by simp, ?_, hB.alloc hB.size _, by simp⟩
    rw [List.map_singleton, byteVal]
    exact hr1
  case round =>
    obtain ⟨j, l, rfl, hj, hl, hrow, hBr, hsz⟩ := hrel
    cases j with
    | zero =>
      obtain ⟨k, hk⟩ : ∃ k, l.length = k + 1 := ⟨l.length - 1, by omega⟩
      rw [hk] at hrow
      obtain ⟨g, cap, rfl⟩ := ownsRow_succ hrow
      have hcv := run_convert_bytes_back wr 35 9 5 ⟨g, 0, none⟩ cap l Tryz.underlying35 Tryz.underlying5 Tryz.underlying9 (fun j hj => hrow.cells rfl j _ (by simp [hj]))
      rw [hk] at hcv
      have hsl : (⟨l.toArray⟩ : ByteArray).size = l.length := rfl
      clear hrow
      go_wp2_with fail
      go_ret2
      exact ⟨⟨_, rfl, by rw [hsl]; omega⟩, hBr⟩
    | succ j =>
      have e1 : 6 * ((j : Int) + 1) - 6 = 6 * (j : Int) := by omega
      have e2 : (0 : Int) < 6 * ((j + 1 : Nat) : Int) := by omega
      have e3 : (0 : Int) ≤ 6 * (j : Int) := by omega
      go_wp2_with (at_builtin; refine wpList_append_own _ rfl _ _ 35 rfl w1.heap.size 5 i0 (.int .u8 0) 1 1 Tryz.underlying35 hi hz0 hz1 hz2 rfl (by decide) _ _ _ rfl (hrow.alloc _) ⟨wr.heap.size, 0, none⟩ 1 1 [.int .u8 _] rfl rfl (cell_one_new _ _ _) (by simp [Value.oneCell']) (by unfold maxLen; omega) (by omega) (by simp; omega) ?_; intro v' w2 hown' hgrow _)
      generalize bits BinOp.or IntKind.i64 128 (bits BinOp.and IntKind.i64 ((r : Int) / 2 ^ (6 * j)) 63) = z at *
      have hg2 : (wr.alloc (.cells #[.int .u8 (z % 256)] 5)).grownBy w2 u6.ownBlock := hgrow
      have hz := hg2.size
      simp only [World.size_alloc] at hz
      refine ⟨⟨j, l ++ [UInt8.ofNat (z % 256).toNat], rfl, by omega, by simp; omega, ?_, (hBr.alloc hBr.size _).grown hg2 (by have := hBr.size; simp; omega) (fun k e => Nat.le_trans hB.size (hrow.lt k e).1), by omega⟩, by simp [intOf]; omega⟩
      rw [List.length_append, List.length_singleton, List.map_append, List.map_singleton, byteVal]
      exact hown'

set_option maxRecDepth 100000 in
set_option maxHeartbeats 1000000 in
theorem Encode_three (r : Nat) (h : isScal r = true) (h4 : 2048 ≤ r ∧ r < 65536) (w : World) :
    Calls Tryz.prog 184 #[.int .i64 r] w fun e w' => (∃ s : ByteArray, e = .returned (.tuple #[.string s, .int .i64 0]) ∧ s.size = 3) ∧ Below w.heap.size w w' := by
  obtain ⟨i0, hi, hz0, hz1, hz2⟩ := info_parts infoByte
  have K := isRune_any r w
  rw [h] at K
  have t0 : ((65536 : Int) ≤ r) = False := by simp; omega
  have t1 : ((2048 : Int) ≤ r) = True := by simp; omega
  go_enter Tryz.func184, Tryz.ntmps184
  go_wp2_with fail
  refine K.mono ?_
  rintro e w1 ⟨rfl, hB⟩
  clear K
  go_wp2_with fail
  clear t0 t1 h4 h
  go_loopw [5, 6] (fun sh v wr => ∃ (j : Nat) (l : List UInt8), sh = .int .i64 (6 * (j : Int)) ∧ j ≤ 3 ∧ l.length + j = 3 ∧ wr.ownsRow w1.heap.size 5 1 v l.length (l.map fun c => .int .u8 (c.toNat : Int)) ∧ Below w.heap.size w wr ∧ w1.heap.size ≤ wr.heap.size) (fun sh _ _ => (intOf sh).toNat)
  case atStart =>
    have hr1 := row_one w1 (.int .u8 (bits BinOp.or IntKind.i64 224 ((r : Int) / 4096) % 256)) 5
    generalize bits BinOp.or IntKind.i64 224 ((r : Int) / 4096) = z at *
    refine ⟨2, [UInt8.ofNat (z % 256).toNat], by simp, by omega, by simp, ?_, hB.alloc hB.size _, by simp⟩
    rw [List.map_singleton, byteVal]
    exact hr1
  case round =>
    obtain ⟨j, l, rfl, hj, hl, hrow, hBr, hsz⟩ := hrel
    cases j with
    | zero =>
      obtain ⟨k, hk⟩ : ∃ k, l.length = k + 1 := ⟨l.length - 1, by omega⟩
      rw [hk] at hrow
      obtain ⟨g, cap, rfl⟩ := ownsRow_succ hrow
      have hcv := run_convert_bytes_back wr 35 9 5 ⟨g, 0, none⟩ cap l Tryz.underlying35 Tryz.underlying5 Tryz.underlying9 (fun j hj => hrow.cells rfl j _ (by simp [hj]))
      rw [hk] at hcv
      have hsl : (⟨l.toArray⟩ : ByteArray).size = l.length := rfl
      clear hrow
      go_wp2_with fail
      go_ret2
      exact ⟨⟨_, rfl, by rw [hsl]; omega⟩, hBr⟩
    | succ j =>
      have e1 : 6 * ((j : Int) + 1) - 6 = 6 * (j : Int) := by omega
      have e2 : (0 : Int) < 6 * ((j + 1 : Nat) : Int) := by omega
      have e3 : (0 : Int) ≤ 6 * (j : Int) := by omega
      go_wp2_with (at_builtin; refine wpList_append_own _ rfl _ _ 35 rfl w1.heap.size 5 i0 (.int .u8 0) 1 1 Tryz.underlying35 hi hz0 hz1 hz2 rfl (by decide) _ _ _ rfl (hrow.alloc _) ⟨wr.heap.size, 0, none⟩ 1 1 [.int .u8 _] rfl rfl (cell_one_new _ _ _) (by simp [Value.oneCell']) (by unfold maxLen; omega) (by omega) (by simp; omega) ?_; intro v' w2 hown' hgrow _)
      generalize bits BinOp.or IntKind.i64 128 (bits BinOp.and IntKind.i64 ((r : Int) / 2 ^ (6 * j)) 63) = z at *
      have hg2 : (wr.alloc (.cells #[.int .u8 (z % 256)] 5)).grownBy w2 u6.ownBlock := hgrow
      have hz := hg2.size
      simp only [World.size_alloc] at hz
      refine ⟨⟨j, l ++ [UInt8.ofNat (z % 256).toNat], rfl, by omega, by simp; omega, ?_, (hBr.alloc hBr.size _).grown hg2 (by have := hBr.size; simp; omega) (fun k e => Nat.le_trans hB.size (hrow.lt k e).1), by omega⟩, by simp [intOf]; omega⟩
      rw [List.length_append, List.length_singleton, List.map_append, List.map_singleton, byteVal]
      exact hown'

set_option maxRecDepth 100000 in
set_option maxHeartbeats 1000000 in
theorem Encode_four (r : Nat) (h : isScal r = true) (h4 : 65536 ≤ r ∧ r ≤ 1114111) (w : World) :
    Calls Tryz.prog 184 #[.int .i64 r] w fun e w' => (∃ s : ByteArray, e = .returned (.tuple #[.string s, .int .i64 0]) ∧ s.size = 4) ∧ Below w.heap.size w w' := by
  obtain ⟨i0, hi, hz0, hz1, hz2⟩ := info_parts infoByte
  have K := isRune_any r w
  rw [h] at K
  have t0 : ((65536 : Int) ≤ r) = True := by simp; omega
  go_enter Tryz.func184, Tryz.ntmps184
  go_wp2_with fail
  refine K.mono ?_
  rintro e w1 ⟨rfl, hB⟩
  clear K
  go_wp2_with fail
  clear t0 h4 h
  go_loopw [5, 6] (fun sh v wr => ∃ (j : Nat) (l : List UInt8), sh = .int .i64 (6 * (j : Int)) ∧ j ≤ 3 ∧ l.length + j = 4 ∧ wr.ownsRow w1.heap.size 5 1 v l.length (l.map fun c => .int .u8 (c.toNat : Int)) ∧ Below w.heap.size w wr ∧ w1.heap.size ≤ wr.heap.size) (fun sh _ _ => (intOf sh).toNat)
  case atStart =>
    have hr1 := row_one w1 (.int .u8 (bits BinOp.or IntKind.i64 240 ((r : Int) / 262144) % 256)) 5
    generalize bits BinOp.or IntKind.i64 240 ((r : Int) / 262144) = z at *
    refine ⟨3, [UInt8.ofNat (z % 256).toNat], by simp, by omega, by simp, ?_, hB.alloc hB.size _, by simp⟩
    rw [List.map_singleton, byteVal]
    exact hr1
  case round =>
    obtain ⟨j, l, rfl, hj, hl, hrow, hBr, hsz⟩ := hrel
    cases j with
    | zero =>
      obtain ⟨k, hk⟩ : ∃ k, l.length = k + 1 := ⟨l.length - 1, by omega⟩
      rw [hk] at hrow
      obtain ⟨g, cap, rfl⟩ := ownsRow_succ hrow
      have hcv := run_convert_bytes_back wr 35 9 5 ⟨g, 0, none⟩ cap l Tryz.underlying35 Tryz.underlying5 Tryz.underlying9 (fun j hj => hrow.cells rfl j _ (by simp [hj]))
      rw [hk] at hcv
      have hsl : (⟨l.toArray⟩ : ByteArray).size = l.length := rfl
      clear hrow
      go_wp2_with fail
      go_ret2
      exact ⟨⟨_, rfl, by rw [hsl]; omega⟩, hBr⟩
    | succ j =>
      have e1 : 6 * ((j : Int) + 1) - 6 = 6 * (j : Int) := by omega
      have e2 : (0 : Int) < 6 * ((j + 1 : Nat) : Int) := by omega
      have e3 : (0 : Int) ≤ 6 * (j : Int) := by omega
      go_wp2_with (at_builtin; refine wpList_append_own _ rfl _ _ 35 rfl w1.heap.size 5 i0 (.int .u8 0) 1 1 Tryz.underlying35 hi hz0 hz1 hz2 rfl (by decide) _ _ _ rfl (hrow.alloc _) ⟨wr.heap.size, 0, none⟩ 1 1 [.int .u8 _] rfl rfl (cell_one_new _ _ _) (by simp [Value.oneCell']) (by unfold maxLen; omega) (by omega) (by simp; omega) ?_; intro v' w2 hown' hgrow _)
      generalize bits BinOp.or IntKind.i64 128 (bits BinOp.and IntKind.i64 ((r : Int) / 2 ^ (6 * j)) 63) = z at *
      have hg2 : (wr.alloc (.cells #[.int .u8 (z % 256)] 5)).grownBy w2 u6.ownBlock := hgrow
      have hz := hg2.size
      simp only [World.size_alloc] at hz
      refine ⟨⟨j, l ++ [UInt8.ofNat (z % 256).toNat], rfl, by omega, by simp; omega, ?_, (hBr.alloc hBr.size _).grown hg2 (by have := hBr.size; simp; omega) (fun k e => Nat.le_trans hB.size (hrow.lt k e).1), by omega⟩, by simp [intOf]; omega⟩
      rw [List.length_append, List.length_singleton, List.map_append, List.map_singleton, byteVal]
      exact hown'

theorem Encode_len (r : Nat) (h : isScal r = true) (w : World) :
    Calls Tryz.prog 184 #[.int .i64 r] w fun e w' => (∃ s : ByteArray, e = .returned (.tuple #[.string s, .int .i64 0]) ∧ s.size = ulen r) ∧ Below w.heap.size w w' := by
  have hr : r ≤ 1114111 := by simp [isScal] at h; omega
  unfold ulen
  by_cases h1 : r < 128
  · rw [if_pos h1]; exact Encode_one r h h1 w
  rw [if_neg h1]
  by_cases h2 : r < 2048
  · rw [if_pos h2]; exact Encode_two r h ⟨by omega, h2⟩ w
  rw [if_neg h2]
  by_cases h3 : r < 65536
  · rw [if_pos h3]; exact Encode_three r h ⟨by omega, h3⟩ w
  rw [if_neg h3]
  exact Encode_four r h ⟨by omega, hr⟩ w
end Go.Proofs.YtkfaejnpgdbhlaaGreatDoor
