/-
  path's isNot by contract: whether a part may not be, the path's block done or not.
-/
import Derived.Test.YtkfaejnpgdbhlaaGreatDoorParts
import Derived.Test.YtkfaejnpgdbhlaaGreatDoorOnce
import Derived.Test.YtkfaejnpgdbhlaaGreatDoorPathFn
import Derived.Test.YtkfaejnpgdbhlaaGreatDoorHeadMath
import Derived.Lib.SlicesS
namespace Go.Proofs.YtkfaejnpgdbhlaaGreatDoor
open Go.RowKit Go.Shelf

/-- The path's block, done or not; the row, if there is one, lies where Pg says. -/
def NotAt (W : World) (pb : Nat) (s : ByteArray) (Pg : Nat → Prop) : Prop :=
  W.heap[pb]? = some (PathCells s 0 0 (.slice none 0 0)) ∨ ∃ g, W.heap[pb]? = some (PathCells s 1 0 (.slice (some ⟨g, 0, none⟩) 3 3)) ∧ W.heap[g]? = some notRow ∧ Pg g

theorem indexByte_mem (c : UInt8) : ∀ l : List UInt8, 0 ≤ Lib.indexByte l c ↔ c ∈ l := by
  intro l
  induction l with
  | nil => simp [Lib.indexByte]
  | cons a l ih =>
    simp only [Lib.indexByte]
    by_cases h : a = c
    · subst h; simp
    · have h1 : (a == c) = false := by simpa using h
      rw [h1]
      have hg := Lib.indexByte_ge l c
      by_cases hm : Lib.indexByte l c = -1
      · have h2 : (Lib.indexByte l c == -1) = true := by simpa using hm
        rw [h2]
        have : ¬ c ∈ l := fun hc => by have := ih.2 hc; omega
        simp [this, Ne.symm h]
      · have h2 : (Lib.indexByte l c == -1) = false := by simpa using hm
        rw [h2]
        have : c ∈ l := ih.1 (by omega)
        simp [this]; omega

theorem isNot_eq (l : List UInt8) : (Lib.containsS [⟨#[]⟩, ⟨#[46]⟩, ⟨#[46, 46]⟩] ⟨l.toArray⟩ || decide (0 ≤ Lib.indexByte l 0)) = isNotL l := by
  have e : ∀ a : List UInt8, ((⟨l.toArray⟩ : ByteArray) = ⟨a.toArray⟩) ↔ l = a := fun a => by
    constructor
    · intro h
      have := congrArg (fun b : ByteArray => b.data.toList) h
      simpa using this
    · rintro rfl; rfl
  have e0 := e []
  have e1 := e [46]
  have e2 := e [46, 46]
  have hc := Lib.containsS_iff [⟨#[]⟩, ⟨#[46]⟩, ⟨#[46, 46]⟩] ⟨l.toArray⟩
  have hm := indexByte_mem 0 l
  rw [Bool.eq_iff_iff]
  simp only [isNotL, Bool.or_eq_true, decide_eq_true_eq, hc, hm, List.mem_cons, List.not_mem_nil, or_false, beq_iff_eq, List.contains_iff_mem, ← or_assoc]
  rw [show ((⟨l.toArray⟩ : ByteArray) = ⟨#[]⟩) ↔ l = [] from e0, show ((⟨l.toArray⟩ : ByteArray) = ⟨#[46]⟩) ↔ l = [46] from e1, show ((⟨l.toArray⟩ : ByteArray) = ⟨#[46, 46]⟩) ↔ l = [46, 46] from e2]

theorem not_cells {W : World} {g : Nat} (h : W.heap[g]? = some notRow) : ∀ j, j < ([⟨#[]⟩, ⟨#[46]⟩, ⟨#[46, 46]⟩] : List ByteArray).length → W.cell? ⟨g, 0 + j, none⟩ = some (.string (([⟨#[]⟩, ⟨#[46]⟩, ⟨#[46, 46]⟩] : List ByteArray).getD j ByteArray.empty)) := by
  intro j hj
  have : j = 0 ∨ j = 1 ∨ j = 2 := by simp at hj; omega
  rcases this with rfl | rfl | rfl <;> simp [World.cell?, h, notRow]

set_option maxRecDepth 100000 in
theorem isNot_any (pb : Nat) (s : ByteArray) (Pg : Nat → Prop) (l : List UInt8) (W : World) (h : NotAt W pb s Pg) (hPg : ∀ g, W.heap.size ≤ g → Pg g) :
    Calls Tryz.prog 112 #[.pointer (some ⟨pb, 0, none⟩), .string ⟨l.toArray⟩] W fun e W' => e = .returned (.bool (isNotL l)) ∧ NotAt W' pb s Pg ∧ W.grownBy W' (some pb) := by
  have KC := Lib.hid fun g W h => Tryz.slices_Contains_string g 0 3 3 [⟨#[]⟩, ⟨#[46]⟩, ⟨#[46, 46]⟩] ⟨l.toArray⟩ W (by simp) (by omega) h
  have KI := Lib.hid fun W => Tryz.strings_Contains_one ⟨l.toArray⟩ 0 W
  have E := Lib.hid (isNot_eq l)
  rcases h with h | ⟨g, h, hg, hPgg⟩
  · have kp := lt_block h
    obtain ⟨W1, hW1⟩ : ∃ W1, W1 = W.alloc (.cells #[.pointer (some ⟨pb, 0, none⟩)] 130) := ⟨_, rfl⟩
    have h1 : W1.heap[pb]? = some (PathCells s 0 0 (.slice none 0 0)) := by rw [hW1]; exact (Below.heap_alloc _ _ _ kp).trans h
    have hq : W1.heap[W.heap.size]? = some (.cells #[.pointer (some ⟨pb, 0, none⟩)] 130 (0, 0)) := by rw [hW1]; exact World.alloc_heap_new W _
    have cq := cell_of_one hq
    have hG : W.grownBy W1 (some pb) := by rw [hW1]; exact grown_alloc (World.grownBy.refl _ _) _
    have kz : W.heap.size < W1.heap.size := lt_block hq
    have K1 := Lib.hid (once_first pb 1 137 #[.pointer (some ⟨W.heap.size, 0, none⟩)] (enters_of Tryz.func137 (by kernel_rfl) rfl)
      (fun w2 => (∃ g, w2.heap[pb]? = some (PathCells s 0 1 (.slice (some ⟨g, 0, none⟩) 3 3)) ∧ w2.heap[g]? = some notRow ∧ W.heap.size ≤ g) ∧ W1.grownBy w2 (some pb)) W1
      (by simp [World.cell?, h1, PathCells]) (by simp [World.cell?, h1, PathCells]) (by simp [World.frozen?, h1, PathCells]) (by simp [World.frozen?, h1, PathCells]) (fun _ => by
        have hs1 : (W1.setCell ⟨pb, 2, none⟩ (.int .i32 1)).heap[pb]? = some (PathCells s 0 1 (.slice none 0 0)) := cells_set h1
        have hs2 : (W1.setCell ⟨pb, 2, none⟩ (.int .i32 1)).heap[W.heap.size]? = some (.cells #[.pointer (some ⟨pb, 0, none⟩)] 130 (0, 0)) := (Below.heap_setCell _ _ _ _ (by simp; omega)).trans hq
        have hG2 := grown_set (i := 2) (World.grownBy.refl W1 (some pb)) (.int .i32 1)
        refine (not_fn pb W.heap.size s _ hs1 hs2).mono ?_
        rintro e w2 ⟨rfl, ⟨g, p1, p2, p3⟩, hg⟩
        refine ⟨rfl, ⟨?_, ?_, ?_, ?_⟩, ⟨g, p1, p2, Nat.le_trans hG.size (Nat.le_trans hG2.size p3)⟩, hG2.trans hg⟩
        · simp [World.cell?, p1, PathCells]
        · simp [World.cell?, p1, PathCells]
        · simp [World.frozen?, p1, PathCells]
        · simp [World.frozen?, p1, PathCells]))
    go_enter Tryz.func112, Tryz.ntmps112
    go_wp2_with fail
    rw [← hW1]
    refine K1.out.mono ?_
    rintro e w' ⟨rfl, w2, ⟨⟨g, p1, p2, p3⟩, hg⟩, hw⟩
    have kg : g ≠ pb := by omega
    have q1 : w'.heap[pb]? = some (PathCells s 1 0 (.slice (some ⟨g, 0, none⟩) 3 3)) := by
      rw [hw]
      have a1 : (w2.drew.setCell ⟨pb, 1, none⟩ (.int .u32 1)).heap[pb]? = some (PathCells s 1 1 (.slice (some ⟨g, 0, none⟩) 3 3)) := cells_set (W := w2.drew) p1
      exact cells_set a1
    have q2 : w'.heap[g]? = some notRow := by
      rw [hw]
      exact (Below.heap_setCell _ _ _ _ kg).trans ((Below.heap_setCell _ _ _ _ kg).trans p2)
    have q3 : W.grownBy w' (some pb) := by
      rw [hw]
      exact hG.trans (grown_set (grown_set (grown_drew hg) _) _)
    have hqw : w'.heap[W.heap.size]? = some (.cells #[.pointer (some ⟨pb, 0, none⟩)] 130 (0, 0)) := by
      rw [hw]
      exact (Below.heap_setCell _ _ _ _ (by simp; omega)).trans ((Below.heap_setCell _ _ _ _ (by simp; omega)).trans ((hg.block _ kz (by simp; omega)).trans hq))
    have cq' := cell_of_one hqw
    have c4 : w'.cell? ⟨pb, 4, none⟩ = some (.slice (some ⟨g, 0, none⟩) 3 3) := by simp [World.cell?, q1, PathCells]
    have cells := Lib.hid (not_cells q2)
    have hPgg := hPg g p3
    clear K1 hW1 hw p1 p2 hg h1 hq cq hG
    go_wp2_with fail
    refine (KC.out g _ cells.out).mono ?_
    rintro e w' ⟨rfl, hw⟩
    replace hw := hw.symm
    subst hw
    clear KC cells
    simp only [List.take_succ_cons, List.take_zero]
    generalize Lib.containsS [⟨#[]⟩, ⟨#[46]⟩, ⟨#[46, 46]⟩] ⟨l.toArray⟩ = b1 at *
    cases b1
    · go_wp2_with fail
      refine (KI.out _).mono ?_
      rintro e w' ⟨rfl, hw⟩
      replace hw := hw.symm
      subst hw
      go_wp2_with fail
      go_ret
      exact ⟨by rw [← E.out, Bool.false_or]; rfl, .inr ⟨g, q1, q2, hPgg⟩, q3⟩
    · go_wp2_with fail
      go_ret
      exact ⟨by rw [← E.out, Bool.true_or]; rfl, .inr ⟨g, q1, q2, hPgg⟩, q3⟩
  · have kp := lt_block h
    have kg := lt_block hg
    obtain ⟨W1, hW1⟩ : ∃ W1, W1 = W.alloc (.cells #[.pointer (some ⟨pb, 0, none⟩)] 130) := ⟨_, rfl⟩
    have h1 : W1.heap[pb]? = some (PathCells s 1 0 (.slice (some ⟨g, 0, none⟩) 3 3)) := by rw [hW1]; exact (Below.heap_alloc _ _ _ kp).trans h
    have hg1 : W1.heap[g]? = some notRow := by rw [hW1]; exact (Below.heap_alloc _ _ _ kg).trans hg
    have c1 : W1.cell? ⟨pb, 1, none⟩ = some (.int .u32 1) := by simp [World.cell?, h1, PathCells]
    have c4 : W1.cell? ⟨pb, 4, none⟩ = some (.slice (some ⟨g, 0, none⟩) 3 3) := by simp [World.cell?, h1, PathCells]
    have KD := Lib.hid fun f => once_done ⟨pb, 1, none⟩ f W1 c1
    have cells := Lib.hid (not_cells hg1)
    have hG : W.grownBy W1 (some pb) := by rw [hW1]; exact grown_alloc (World.grownBy.refl _ _) _
    go_enter Tryz.func112, Tryz.ntmps112
    go_wp2_with fail
    rw [← hW1]
    have cq : W1.cell? ⟨W.heap.size, 0, none⟩ = some (.pointer (some ⟨pb, 0, none⟩)) := by rw [hW1]; exact cell_of_one (World.alloc_heap_new W _)
    refine (KD.out _).mono ?_
    rintro e w' ⟨rfl, hw⟩
    subst hw
    clear KD hW1
    go_wp2_with fail
    refine (KC.out g _ cells.out).mono ?_
    rintro e w' ⟨rfl, hw⟩
    replace hw := hw.symm
    subst hw
    clear KC cells
    simp only [List.take_succ_cons, List.take_zero]
    generalize Lib.containsS [⟨#[]⟩, ⟨#[46]⟩, ⟨#[46, 46]⟩] ⟨l.toArray⟩ = b1 at *
    cases b1
    · go_wp2_with fail
      refine (KI.out _).mono ?_
      rintro e w' ⟨rfl, hw⟩
      replace hw := hw.symm
      subst hw
      go_wp2_with fail
      go_ret
      exact ⟨by rw [← E.out, Bool.false_or]; rfl, .inr ⟨g, h1, hg1, hPgg⟩, hG⟩
    · go_wp2_with fail
      go_ret
      exact ⟨by rw [← E.out, Bool.true_or]; rfl, .inr ⟨g, h1, hg1, hPgg⟩, hG⟩
end Go.Proofs.YtkfaejnpgdbhlaaGreatDoor
