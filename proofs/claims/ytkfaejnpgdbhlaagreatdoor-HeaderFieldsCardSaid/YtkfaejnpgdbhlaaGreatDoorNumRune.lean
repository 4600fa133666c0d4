/-
  num.runeAt, over the digits of a base: where a rune stands among them, or -1.
-/
import Derived.Test.YtkfaejnpgdbhlaaGreatDoorNumOf
import Derived.Test.YtkfaejnpgdbhlaaGreatDoorPlain
import Derived.LoopTactic
namespace Go.Proofs.YtkfaejnpgdbhlaaGreatDoor
open Go.RowKit

/-- The code of a digit. -/
def code (k : Nat) : Nat := if k < 10 then 48 + k else 87 + k
/-- The digit of a code (small letters alone), or -1. -/
def codeDig (r : Int) : Int := if 48 ≤ r ∧ r ≤ 57 then r - 48 else if 97 ≤ r ∧ r ≤ 102 then r - 87 else -1

theorem code_dig (k : Nat) (h : k < 16) : codeDig (code k) = k := by unfold codeDig code; split <;> split <;> omega
theorem dig_code (r : Int) (h : codeDig r ≠ -1) : r = code (codeDig r).toNat := by
  unfold codeDig code at *
  repeat' split
  all_goals omega
theorem codeDig_lt (r : Int) : -1 ≤ codeDig r ∧ codeDig r < 16 := by unfold codeDig; split <;> (try split) <;> omega

theorem digStr_size (n : Nat) (h : n ≤ 16) : (digStr n).size = n := by
  have hd : digs.size = 16 := rfl
  simp [digStr, ByteArray.size_extract, hd]; omega
theorem dec_all : ∀ n, n ≤ 16 → ∀ k, k < n → Utf8.decode (digStr n) k = (code k, 1) := by decide +kernel

/-- What runeAt answers over the first n digits. -/
def atDig (n : Nat) (r : Int) : Int := if codeDig r < n then codeDig r else -1

theorem at_found {n k : Nat} {r : Int} (h : k < n) (hn : n ≤ 16) (hr : r = code k) : (k : Int) = atDig n r := by
  unfold atDig; rw [hr, code_dig k (by omega), if_pos (by omega)]
theorem at_none {n : Nat} {r : Int} (h : ∀ j, j < n → r ≠ code j) : (-1 : Int) = atDig n r := by
  unfold atDig
  split
  · have hl := codeDig_lt r
    by_cases e : codeDig r = -1
    · exact e.symm
    · exact absurd (dig_code r e) (h _ (by omega))
  · rfl

set_option maxHeartbeats 400000 in
theorem runeAt_any (n : Nat) (hn : n ≤ 16) (r : Int) (w : World) :
    Calls Tryz.prog 154 #[.string (digStr n), .int .i32 r] w fun e w' => e = .returned (.int .i64 (atDig n r)) ∧ Below w.heap.size w w' := by
  have Hs := Lib.hid (digStr_size n hn)
  have hB : ∀ pos, Below w.heap.size w (w.iter (digStr n) pos) := fun pos => (Below.refl _ _).alloc (Nat.le_refl _) _
  have HB := Lib.hid hB
  clear hB
  go_enter Tryz.func154, Tryz.ntmps154
  go_wp2
  go_loopw [5, 6] (fun _ _ w' => ∃ k : Nat, k ≤ n ∧ w' = w.iter (digStr n) k ∧ ∀ j, j < k → r ≠ code j) (fun _ _ w' => n - w'.iterPos w.heap.size)
  case atStart => exact ⟨0, by omega, rfl, by omega⟩
  case round =>
    obtain ⟨k, hk, rfl, hno⟩ := hrel
    have Hno := Lib.hid hno
    clear hno
    by_cases hlt : k < n
    · have hdec := dec_all n hn k hlt
      have hnx : ∀ ty, (Instr.next (.pointer (some ⟨w.heap.size, 0, none⟩)) true ty).run Tryz.prog (w.iter (digStr n) k) = .ok (.tuple #[.bool true, .int .i64 k, .int .i32 (code k)]) (w.iter (digStr n) (k + 1)) := fun ty => by
        rw [run_next_any w (digStr n) k ty (by rw [Hs.out]; exact hlt), hdec]
      clear hdec
      by_cases hr : r = code k
      · have ht : (((code k : Nat) : Int) == r) = true := by rw [hr]; simp
        have HR := Lib.hid hr
        clear hr
        go_wp2
        go_ret
        exact ⟨ret_int (at_found hlt hn HR.out), HB.out _⟩
      · have ht : (((code k : Nat) : Int) == r) = false := by simp; exact fun e => hr e.symm
        have HR := Lib.hid hr
        clear hr
        go_wp2
        go_roundw
        case rel => exact ⟨k + 1, hlt, rfl, fun j hj e => by
          by_cases hjk : j = k
          · subst hjk; exact HR.out e
          · exact Hno.out j (by omega) e⟩
        case measure => simp; omega
    · have hnx : ∀ ty, (Instr.next (.pointer (some ⟨w.heap.size, 0, none⟩)) true ty).run Tryz.prog (w.iter (digStr n) k) = .ok (.tuple #[.bool false]) (w.iter (digStr n) k) := fun ty => by
        rw [run_next_end w (digStr n) k ty (by rw [Hs.out]; exact hlt)]
      go_wp2
      go_ret
      exact ⟨ret_int (at_none (fun j hj => Hno.out j (by omega))), HB.out _⟩
end Go.Proofs.YtkfaejnpgdbhlaaGreatDoor
