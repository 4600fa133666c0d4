/-
  slices.Reverse over a slice of bytes of the call's own, by contract: its cells hold the bytes the other way round, and nothing else has turned.
-/
import Derived.Test.YtkfaejnpgdbhlaaGreatDoorPlain
import Derived.Test.YtkfaejnpgdbhlaaGreatDoorChecked
import Derived.LoopTactic
import Derived.BigRegion
import Derived.WalkSmall
namespace Go.Proofs.YtkfaejnpgdbhlaaGreatDoor
open Go.RowKit

/-- After k exchanges of n bytes. -/
def revAt (f : Nat → Int) (n k p : Nat) : Int := if p < k ∨ n - 1 - k < p then f (n - 1 - p) else f p

/-- Block g holds the bytes f p, p < n; only that block has turned since w. -/
def RevRel (w wr : World) (g n cap : Nat) (f : Nat → Int) : Prop :=
  (∃ cur, wr.heap[g]? = some (.cells cur 5 (0, 0)) ∧ cur.size = cap ∧ ∀ p, p < n → cur[p]? = some (.int .u8 (f p))) ∧ w.grownBy wr (some g)

theorem RevRel.cell {w wr : World} {g n cap : Nat} {f : Nat → Int} (h : RevRel w wr g n cap f) {p : Nat} (hp : p < n) : wr.cell? ⟨g, p, none⟩ = some (.int .u8 (f p)) := by
  obtain ⟨⟨cur, h1, _, h2⟩, _⟩ := h
  simp [World.cell?, h1, h2 p hp]
theorem RevRel.free {w wr : World} {g n cap : Nat} {f : Nat → Int} (h : RevRel w wr g n cap f) (p : Nat) : wr.frozen? ⟨g, p, none⟩ = false := by
  obtain ⟨⟨cur, h1, _, h2⟩, _⟩ := h
  simp [World.frozen?, h1]

theorem heap_setCell_cells {w : World} {g p : Nat} {cur : Array Value} {t : TypeId} {m : Nat × Nat} (h : w.heap[g]? = some (.cells cur t m)) (v : Value) :
    (w.setCell ⟨g, p, none⟩ v).heap[g]? = some (.cells (cur.setIfInBounds p v) t m) := by
  obtain ⟨hlt, hk⟩ := Array.getElem?_eq_some_iff.1 h
  show (w.heap.modify g _)[g]? = _
  rw [Array.getElem?_eq_getElem (by rw [Array.size_modify]; exact hlt), Array.getElem_modify_self, hk]
  rfl

theorem RevRel.congr {w wr : World} {g n cap : Nat} {f f' : Nat → Int} (h : RevRel w wr g n cap f) (e : ∀ p, p < n → f' p = f p) : RevRel w wr g n cap f' := by
  obtain ⟨⟨cur, h1, h2, h3⟩, h4⟩ := h
  exact ⟨⟨cur, h1, h2, fun p hp => by rw [e p hp]; exact h3 p hp⟩, h4⟩

theorem RevRel.step {w wr : World} {g n cap k m : Nat} {f : Nat → Int} (h : RevRel w wr g n cap (revAt f n k)) (hm : m = n - 1 - k) (hk : k < m) :
    RevRel w (((wr.setCell ⟨g, k, none⟩ (.int .u8 (revAt f n k m))).setCell ⟨g, m, none⟩ (.int .u8 (revAt f n k k))).drew) g n cap (revAt f n (k + 1)) := by
  obtain ⟨⟨cur, h1, h2, h3⟩, h4⟩ := h
  refine ⟨⟨(cur.setIfInBounds k (.int .u8 (revAt f n k m))).setIfInBounds m (.int .u8 (revAt f n k k)), heap_setCell_cells (heap_setCell_cells h1 _) _, by simpa using h2, fun p hp => ?_⟩, ?_⟩
  · have hk3 := h3 k (by omega)
    have hm3 := h3 m (by omega)
    have hks := (Array.getElem?_eq_some_iff.1 hk3).1
    have hms := (Array.getElem?_eq_some_iff.1 hm3).1
    by_cases e1 : p = m
    · subst e1
      rw [Array.getElem?_setIfInBounds_self_of_lt (by simpa using hms)]
      unfold revAt
      rw [if_neg (by omega), if_pos (by omega)]
      exact congrArg (fun x => some (Value.int .u8 (f x))) (by omega)
    · rw [Array.getElem?_setIfInBounds_ne (Ne.symm e1)]
      by_cases e2 : p = k
      · subst e2
        rw [Array.getElem?_setIfInBounds_self_of_lt hks]
        unfold revAt
        rw [if_neg (by omega), if_pos (by omega)]
        exact congrArg (fun x => some (Value.int .u8 (f x))) (by omega)
      · rw [Array.getElem?_setIfInBounds_ne (Ne.symm e2), h3 p hp]
        unfold revAt
        by_cases e3 : p < k ∨ n - 1 - k < p
        · rw [if_pos e3, if_pos (by omega)]
        · rw [if_neg e3, if_neg (by omega)]
  · exact ⟨h4.os, h4.tape, h4.output, by simpa [World.setCell] using h4.size, fun i hi hn => by
      have hg : i ≠ g := fun e => hn (by rw [e])
      show ((wr.setCell ⟨g, k, none⟩ _).setCell ⟨g, m, none⟩ _).heap[i]? = _
      rw [Below.heap_setCell _ _ _ _ hg, Below.heap_setCell _ _ _ _ hg]
      exact h4.block i hi hn⟩

theorem RevRel.done {w wr : World} {g n cap k : Nat} {f : Nat → Int} (h : RevRel w wr g n cap (revAt f n k)) (hk : ¬ (k : Int) < (n : Int) - 1 - k) :
    RevRel w wr g n cap (fun p => f (n - 1 - p)) := by
  refine h.congr fun p hp => ?_
  unfold revAt
  split
  · rfl
  · exact congrArg f (by omega)

set_option maxRecDepth 100000 in
set_option maxHeartbeats 1000000 in
theorem Reverse_any (g n cap : Nat) (f : Nat → Int) (hn : 1 ≤ n) (hn2 : n ≤ 140737488351232) (w : World) (h : RevRel w w g n cap f) :
    Calls Tryz.prog 121 #[.slice (some ⟨g, 0, none⟩) n cap] w fun e w' => e = .returned (.tuple #[]) ∧ RevRel w w' g n cap (fun p => f (n - 1 - p)) := by
  go_enter Tryz.func121, Tryz.ntmps121
  go_wp2
  go_loopw [2, 3] (fun i j wr => ∃ k : Nat, 2 * k ≤ n ∧ i = .int .i64 k ∧ j = .int .i64 ((n : Int) - 1 - k) ∧ RevRel w wr g n cap (revAt f n k)) (fun i _ _ => n - (intOf i).toNat)
  case atStart => exact ⟨0, by omega, rfl, by go_num, h.congr fun p hp => by unfold revAt; rw [if_neg (by omega)]⟩
  case round =>
    obtain ⟨k, hk, rfl, rfl, hR⟩ := hrel
    by_cases hlt : (k : Int) < (n : Int) - 1 - k
    · obtain ⟨m, hm⟩ : ∃ m : Nat, (m : Int) = (n : Int) - 1 - k := ⟨n - 1 - k, by omega⟩
      rw [← hm] at hlt ⊢
      have c1 := hR.cell (p := k) (by omega)
      have c2 := hR.cell (p := m) (by omega)
      have f1 := hR.free k
      have f2 := hR.free m
      have b1 : (0 : Int) ≤ k ∧ (k : Int) < n := by omega
      have b2 : (0 : Int) ≤ m ∧ (m : Int) < n := by omega
      have n1 : ¬ k = m := by omega
      have n2 : ¬ m = k := by omega
      have HM := Lib.hid hm
      have HR := Lib.hid hR
      clear hm hR
      go_wp2
      go_region
      all_goals go_wp2
      all_goals exact ⟨⟨k + 1, by have := HM.out; omega, by go_num, by rw [HM.out]; exact congrArg _ (by omega), HR.out.step (by have := HM.out; omega) (by have := HM.out; omega)⟩, by simp [intOf]; omega⟩
    · go_wp2
      go_end0
      exact ⟨rfl, hR.done (by omega)⟩
end Go.Proofs.YtkfaejnpgdbhlaaGreatDoor
