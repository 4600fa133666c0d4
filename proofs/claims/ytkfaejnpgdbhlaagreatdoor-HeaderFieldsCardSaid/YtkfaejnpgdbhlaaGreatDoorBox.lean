/-
  Appending to a slice that a boxed variable holds, inside a round of a range over a function: what has turned, and what not; for every program.
-/
import Derived.Test.YtkfaejnpgdbhlaaGreatDoorRange
import Derived.RangeFuncBox
namespace Go.Proofs.YtkfaejnpgdbhlaaGreatDoor
open Go.RowKit

theorem KeepsRec.of_others {B : Nat} {W W' : World} (h : KeepsOthers W W') : KeepsRec B W W' := fun k o _ hk hc => h.same k o hk (by
  cases o <;> first | rfl | exact absurd rfl (hc _ _ _))

theorem box_append {W w1 : World} {n0 n1 B : Nat} {t e : TypeId} {size : Nat} {v v' : Value} {k m : Nat} {xs ys : List Value} {tmp : Obj}
    (hv : Boxed W B t v) (hte : t ≠ e) (hrow : W.ownsRow n1 e size v k xs) (hn : n1 ≤ W.heap.size) (h0 : n0 ≤ n1) (h0B : n0 ≤ B)
    (hown' : w1.ownsRow n1 e size v' m ys) (hgrow : (W.alloc tmp).grownBy w1 v.ownBlock) :
    Boxed w1 B t v ∧ Boxed (w1.setCell ⟨B, 0, none⟩ v') B t v' ∧ (w1.setCell ⟨B, 0, none⟩ v').ownsRow n1 e size v' m ys ∧ (∀ b, KeepsRec b W (w1.setCell ⟨B, 0, none⟩ v')) ∧ Below n0 W (w1.setCell ⟨B, 0, none⟩ v') ∧
      (∀ i, i < n1 → i ≠ B → (w1.setCell ⟨B, 0, none⟩ v').heap[i]? = W.heap[i]?) := by
  have hv1 : Boxed w1 B t v := (hv.alloc tmp).kept hgrow (hv.not_row hte hrow)
  have hsame : ∀ i, i < n1 → w1.heap[i]? = W.heap[i]? := fun i hi => by
    rw [hgrow.block i (by simp; omega) ?_, Below.heap_alloc W tmp i (by omega)]
    rcases hrow.2 with ⟨rfl, _⟩ | ⟨g, cap, cur, rfl, hb, _, _⟩
    · simp [Value.ownBlock]
    · simp [Value.ownBlock]; omega
  have hsz := hgrow.size
  simp only [World.size_alloc] at hsz
  refine ⟨hv1, hv1.set v', hown'.kept (grownBy_setCell' w1 B v') (.inr (hv1.not_row hte hown').symm), fun b => ?_, ⟨hgrow.os, hgrow.tape, hgrow.output, by simp [World.setCell]; omega, fun i hi => ?_⟩, fun i hi hne => ?_⟩
  · refine KeepsRec.of_others (((KeepsOthers.alloc W tmp).trans (KeepsOthers.of_grownBy hgrow fun j o ej hj => ?_)).trans (KeepsOthers.setCell _ _ _))
    rcases (hrow.alloc tmp).2 with ⟨rfl, _⟩ | ⟨g, cap, cur, rfl, _, hgb, _⟩
    · simp [Value.ownBlock] at ej
    · obtain rfl : g = j := by simpa [Value.ownBlock] using ej
      rw [hgb] at hj; cases hj; rfl
  · rw [Below.heap_setCell _ _ _ _ (by simp; omega)]
    exact hsame i (by omega)
  · rw [Below.heap_setCell _ _ _ _ hne]
    exact hsame i hi
end Go.Proofs.YtkfaejnpgdbhlaaGreatDoor
