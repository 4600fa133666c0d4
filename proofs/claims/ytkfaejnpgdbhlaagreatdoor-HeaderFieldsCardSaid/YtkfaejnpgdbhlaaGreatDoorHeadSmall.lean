/-
  header's octal, check, Pad, and the table's fill, by contract.
-/
import Derived.Test.YtkfaejnpgdbhlaaGreatDoorHeadTab
namespace Go.Proofs.YtkfaejnpgdbhlaaGreatDoor
open Go.RowKit

set_option maxRecDepth 100000 in
theorem octal_ok (width : Nat) (h : 1 ≤ width ∧ width ≤ 20) (n : Nat) (hn : n < 18446744073709551616) (hl : (putL 8 n).length ≤ width) (w : World) :
    Calls Tryz.prog 35 #[.int .i64 width, .int .u64 n] w fun e w' => e = .returned (.string ⟨(fieldL width n).toArray⟩) ∧ Below w.heap.size w w' := by
  have K := Lib.hid (Field_ok width h n hn hl w)
  go_enter Tryz.func35, Tryz.ntmps35
  go_wp2_with fail
  refine K.out.mono ?_
  rintro e w1 ⟨rfl, hB⟩
  go_wp2_with fail
  go_ret
  exact ⟨rfl, hB⟩

theorem put_small {k n : Nat} (h : n < 8 ^ (k + 1)) : (putL 8 n).length ≤ k + 1 := by
  rw [putL_dig, List.length_map]
  exact (dig_len (by omega) k n).2 h
theorem fieldL_length {k n : Nat} (hl : (putL 8 n).length ≤ k) : (fieldL k n).length = k := by
  unfold fieldL
  rw [List.length_append, List.length_replicate]; omega

set_option maxRecDepth 100000 in
theorem check_any (n : Nat) (hn : n < 262144) (w : World) :
    Calls Tryz.prog 36 #[.int .u64 n] w fun e w' => e = .returned (.string ⟨(checkL n).toArray⟩) ∧ Below w.heap.size w w' := by
  have hl : (putL 8 n).length ≤ 6 := put_small (k := 5) (by omega)
  have K : Hid (Calls Tryz.prog 35 #[.int .i64 6, .int .u64 n] w _) := Lib.hid (octal_ok 6 (by omega) n (by omega) hl w)
  have hfl := fieldL_length hl
  unfold checkL
  generalize fieldL 6 n = l at *
  have hs1 : (⟨l.toArray⟩ : ByteArray).size + (⟨#[0, 32]⟩ : ByteArray).size ≤ 9223372036854775807 := by simp [ByteArray.size]; omega
  have hs2 := fun w2 => run_string_add_sum (P := Tryz.prog) w2 _ _ hs1
  have hap : (⟨l.toArray⟩ : ByteArray) ++ (⟨#[0, 32]⟩ : ByteArray) = ⟨(l ++ [0, 32]).toArray⟩ := by apply ByteArray.ext; simp
  rw [hap] at hs2
  clear hs1 hap hl
  go_enter Tryz.func36, Tryz.ntmps36
  go_wp2_with fail
  refine K.out.mono ?_
  rintro e w1 ⟨rfl, hB⟩
  go_wp2_with fail
  go_ret
  exact ⟨rfl, hB⟩

/-- What is missing to whole blocks. -/
def padN (n : Nat) : Nat := (18446744073709551616 - n) % 18446744073709551616 % 512

set_option maxRecDepth 100000 in
theorem Pad_any (n : Nat) (hn : n < 18446744073709551616) (w : World) :
    Calls Tryz.prog 18 #[.int .u64 n] w fun e w' => e = .returned (.int .u64 (padN n)) ∧ w' = w := by
  have E : Hid ((padN n : Int) = (IntKind.u64.wrap (-(n : Int))).tmod 512) := Lib.hid (by
    rw [IntKind.wrap_u64, Int.tmod_eq_emod_of_nonneg (by omega)]; unfold padN; omega)
  go_enter Tryz.func18, Tryz.ntmps18
  go_wp2
  go_ret
  exact ⟨by rw [E.out]; rfl, rfl⟩

set_option maxRecDepth 100000 in
theorem fill_any (tb : Nat) (W : World) (h : W.heap[tb]? = some (TabCells 0 0 0)) :
    Calls Tryz.prog 33 #[.pointer (some ⟨tb, 0, none⟩)] W fun e W' => e = .returned (.pointer (some ⟨tb, 0, none⟩)) ∧ W'.heap[tb]? = some (TabCells 1 0 16) ∧ W.grownBy W' (some tb) := by
  have kp := lt_block h
  obtain ⟨W1, hW1⟩ : ∃ W1, W1 = W.alloc (.cells #[.pointer (some ⟨tb, 0, none⟩)] 59) := ⟨_, rfl⟩
  have h1 : W1.heap[tb]? = some (TabCells 0 0 0) := by rw [hW1]; exact (Below.heap_alloc _ _ _ kp).trans h
  have hq : W1.heap[W.heap.size]? = some (.cells #[.pointer (some ⟨tb, 0, none⟩)] 59 (0, 0)) := by rw [hW1]; exact World.alloc_heap_new W _
  have cq := cell_of_one hq
  have hG : W.grownBy W1 (some tb) := by rw [hW1]; exact grown_alloc (World.grownBy.refl _ _) _
  have kz : W.heap.size < W1.heap.size := lt_block hq
  have cell : ∀ (A : World) (d m : Int) (k : Nat), A.heap[tb]? = some (TabCells d m k) → A.cell? ⟨tb, 0, none⟩ = some (.int .u32 d) ∧ A.cell? ⟨tb, 0 + 1, none⟩ = some (.int .i32 m) ∧ A.frozen? ⟨tb, 0, none⟩ = false ∧ A.frozen? ⟨tb, 0 + 1, none⟩ = false := fun A d m k hA => by
    simp [World.cell?, World.frozen?, hA, TabCells, tabC]
  have set0 : ∀ (A : World) (d d2 m : Int) (k : Nat), A.heap[tb]? = some (TabCells d m k) → (A.setCell ⟨tb, 0, none⟩ (.int .u32 d2)).heap[tb]? = some (TabCells d2 m k) := fun A d d2 m k hA => cells_set hA
  have set1 : ∀ (A : World) (d m m2 : Int) (k : Nat), A.heap[tb]? = some (TabCells d m k) → (A.setCell ⟨tb, 0 + 1, none⟩ (.int .i32 m2)).heap[tb]? = some (TabCells d m2 k) := fun A d m m2 k hA => cells_set hA
  have K1 := Lib.hid (once_first tb 0 58 #[.pointer (some ⟨W.heap.size, 0, none⟩)] (enters_of Tryz.func58 (by kernel_rfl) rfl)
    (fun w2 => w2.heap[tb]? = some (TabCells 0 1 16) ∧ W1.grownBy w2 (some tb)) W1
    (cell _ _ _ _ h1).1 (cell _ _ _ _ h1).2.1 (cell _ _ _ _ h1).2.2.1 (cell _ _ _ _ h1).2.2.2 (fun _ => by
      have hs1 := set1 _ _ _ 1 _ h1
      have hs2 : (W1.setCell ⟨tb, 0 + 1, none⟩ (.int .i32 1)).heap[W.heap.size]? = some (.cells #[.pointer (some ⟨tb, 0, none⟩)] 59 (0, 0)) := (Below.heap_setCell _ _ _ _ (by simp; omega)).trans hq
      have hG2 := grown_set (i := 0 + 1) (World.grownBy.refl W1 (some tb)) (.int .i32 1)
      refine (tab_fn tb W.heap.size (by omega) _ hs1 hs2).mono ?_
      rintro e w2 ⟨rfl, p1, hg⟩
      exact ⟨rfl, cell _ _ _ _ p1, p1, hG2.trans hg⟩))
  clear cell
  go_enter Tryz.func33, Tryz.ntmps33
  go_wp2_with fail
  rw [← hW1]
  refine K1.out.mono ?_
  rintro e w' ⟨rfl, w2, ⟨p1, hg⟩, hw⟩
  have q1 : w'.heap[tb]? = some (TabCells 1 0 16) := by
    rw [hw]
    exact set1 _ _ _ _ _ (set0 w2.drew _ _ _ _ p1)
  have q3 : W.grownBy w' (some tb) := by
    rw [hw]
    exact hG.trans (grown_set (grown_set (grown_drew hg) _) _)
  have hqw : w'.heap[W.heap.size]? = some (.cells #[.pointer (some ⟨tb, 0, none⟩)] 59 (0, 0)) := by
    rw [hw]
    exact (Below.heap_setCell _ _ _ _ (by simp; omega)).trans ((Below.heap_setCell _ _ _ _ (by simp; omega)).trans ((hg.block _ kz (by simp; omega)).trans hq))
  have cq' := cell_of_one hqw
  clear K1 hW1 hw p1 hg h1 hq cq hG
  go_wp2_with fail
  go_ret
  exact ⟨rfl, q1, q3⟩
end Go.Proofs.YtkfaejnpgdbhlaaGreatDoor
