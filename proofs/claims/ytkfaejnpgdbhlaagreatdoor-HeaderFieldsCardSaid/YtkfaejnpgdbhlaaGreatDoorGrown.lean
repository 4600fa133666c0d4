/-
  Worlds in which one elder block alone may be another one ('grownBy .. (some r)'), through stores, new blocks and draws.
-/
import Derived.Test.YtkfaejnpgdbhlaaGreatDoorBox
namespace Go.Proofs.YtkfaejnpgdbhlaaGreatDoor
open Go.RowKit

theorem cells_set {W : World} {k i : Nat} {C : Array Value} {t : TypeId} {v : Value} (h : W.heap[k]? = some (.cells C t (0, 0))) : (W.setCell ⟨k, i, none⟩ v).heap[k]? = some (.cells (C.setIfInBounds i v) t (0, 0)) :=
  Go.heap_setCell_same W k i C t v h
theorem grown_set {w A : World} {r i : Nat} (h : w.grownBy A (some r)) (v : Value) : w.grownBy (A.setCell ⟨r, i, none⟩ v) (some r) :=
  ⟨h.os, h.tape, h.output, by simpa [World.setCell] using h.size, fun k hk hn => (Below.heap_setCell A _ v k (fun e => hn (by rw [e]))).trans (h.block k hk hn)⟩
theorem grown_set_new {w A : World} {k i : Nat} {r : Option Nat} (h : w.grownBy A r) (hk : w.heap.size ≤ k) (v : Value) : w.grownBy (A.setCell ⟨k, i, none⟩ v) r :=
  ⟨h.os, h.tape, h.output, by simpa [World.setCell] using h.size, fun j hj hn => (Below.heap_setCell A _ v j (fun e => by simp at e; omega)).trans (h.block j hj hn)⟩
theorem grown_alloc {w A : World} {r : Option Nat} (h : w.grownBy A r) (o : Obj) : w.grownBy (A.alloc o) r :=
  ⟨h.os, h.tape, h.output, by simp; have := h.size; omega, fun j hj hn => (Below.heap_alloc A o j (by have := h.size; omega)).trans (h.block j hj hn)⟩
theorem grown_drew {w A : World} {r : Option Nat} (h : w.grownBy A r) : w.grownBy A.drew r := ⟨h.os, h.tape, h.output, h.size, h.block⟩
theorem grown_drewN {w A : World} {r : Option Nat} (h : w.grownBy A r) (n : Nat) : w.grownBy (A.drewN n) r := ⟨h.os, h.tape, h.output, h.size, h.block⟩
theorem grown_below {w A B : World} {r : Option Nat} (h : w.grownBy A r) (hb : Below A.heap.size A B) : w.grownBy B r :=
  ⟨hb.os.trans h.os, hb.tape.trans h.tape, hb.output.trans h.output, Nat.le_trans h.size hb.size, fun k hk hn => (hb.block k (Nat.lt_of_lt_of_le hk h.size)).trans (h.block k hk hn)⟩
theorem grown_below' {w A B : World} {r : Option Nat} (h : w.grownBy A r) (hb : Below w.heap.size A B) : w.grownBy B r :=
  ⟨hb.os.trans h.os, hb.tape.trans h.tape, hb.output.trans h.output, Nat.le_trans h.size hb.size, fun k hk hn => (hb.block k hk).trans (h.block k hk hn)⟩
theorem grown_steps {w A B : World} {r : Option Nat} {own : Nat → Prop} {base : Nat} (h : w.grownBy A r) (hs : Steps own base A B) (ho : ∀ k, k < w.heap.size → ¬ own k) (hb : w.heap.size ≤ base) : w.grownBy B r :=
  ⟨hs.os.trans h.os, hs.tape.trans h.tape, hs.output.trans h.output, Nat.le_trans h.size hs.size, fun k hk hn => by
    have hlt : k < A.heap.size := Nat.lt_of_lt_of_le hk h.size
    rw [← h.block k hk hn, Array.getElem?_eq_getElem hlt]
    exact hs.same k _ (Array.getElem?_eq_getElem hlt) (ho k hk) (.inr (by omega))⟩
theorem below_grown {B : Nat} {w A C : World} {r : Nat} (h : Below B w A) (g : A.grownBy C (some r)) (hr : B ≤ r) (hB : B ≤ A.heap.size) : Below B w C :=
  h.grown g hB (fun k e => by cases e; exact hr)
theorem lt_block {W : World} {k : Nat} {o : Obj} (h : W.heap[k]? = some o) : k < W.heap.size := (Array.getElem?_eq_some_iff.1 h).1
end Go.Proofs.YtkfaejnpgdbhlaaGreatDoor
