/-
  Package utf's isRune, by contract: is a number a rune?
-/
import Derived.Test.YtkfaejnpgdbhlaaGreatDoorChecked
import Derived.WalkKit
import Derived.WalkLawsBesides
import Derived.ProofKit
import Derived.LoopTactic
import Derived.Lib.Hide
namespace Go.Proofs.YtkfaejnpgdbhlaaGreatDoor
open Go.RowKit

theorem cell_lt {w : World} {p : Addr} {v : Value} (h : w.cell? p = some v) : p.block < w.heap.size := by
  by_cases hl : p.block < w.heap.size
  · exact hl
  · simp [World.cell?, Array.getElem?_eq_none (Nat.le_of_not_lt hl)] at h
theorem cell_alloc {w : World} {p : Addr} {v : Value} (h : w.cell? p = some v) (o : Obj) : (w.alloc o).cell? p = some v :=
  ((((Below.refl w.heap.size w).alloc (Nat.le_refl _) o).cell (cell_lt h)).trans h)

set_option maxRecDepth 100000 in
theorem inSpan (r a b : Int) (p : Addr) (w : World) (hp : w.cell? p = some (.int .i64 r)) (ha : -2147483648 ≤ a ∧ a ≤ 2147483647) (hb : -2147483648 ≤ b ∧ b ≤ 2147483647) :
    Calls Tryz.prog 188 #[.agg #[.int .i32 a, .int .i32 b], .pointer (some p)] w fun e w' => e = .returned (.bool (decide (a ≤ r) && decide (r ≤ b))) ∧ Below w.heap.size w w' := by
  have h1 := cell_alloc hp (.cells #[.int .i32 a, .int .i32 b] 247)
  by_cases hc : a ≤ r
  · go_enter Tryz.func188, Tryz.ntmps188
    go_wp2_with fail
    go_ret
    exact ⟨by simp [hc], (Below.refl _ _).alloc (Nat.le_refl _) _⟩
  · have hc2 : (a ≤ r) = False := by simp; omega
    have hc3 : decide (a ≤ r) = false := by simpa using hc
    clear hc
    rw [hc3]
    go_enter Tryz.func188, Tryz.ntmps188
    go_wp2_with fail
    go_ret
    exact ⟨rfl, (Below.refl _ _).alloc (Nat.le_refl _) _⟩

/-- Two spans lie in a block. -/
structure Spans (w : World) (p g : Nat) (r a b c d : Int) : Prop where
  hp : w.cell? ⟨p, 0, none⟩ = some (.int .i64 r)
  h0 : w.cell? ⟨g, 0, none⟩ = some (.int .i32 a)
  h1 : w.cell? ⟨g, 1, none⟩ = some (.int .i32 b)
  h2 : w.cell? ⟨g, 2, none⟩ = some (.int .i32 c)
  h3 : w.cell? ⟨g, 3, none⟩ = some (.int .i32 d)
theorem Spans.below {w w1 : World} {p g : Nat} {r a b c d : Int} (h : Spans w p g r a b c d) (hB : Below w.heap.size w w1) : Spans w1 p g r a b c d :=
  ⟨(hB.cell (cell_lt h.hp)).trans h.hp, (hB.cell (cell_lt h.h0)).trans h.h0, (hB.cell (cell_lt h.h1)).trans h.h1, (hB.cell (cell_lt h.h2)).trans h.h2, (hB.cell (cell_lt h.h3)).trans h.h3⟩

set_option maxRecDepth 100000 in
set_option maxHeartbeats 1000000 in
/-- slices.IndexFunc over two spans that a block of the world holds. -/
theorem inSpans (r a b c d : Int) (p g : Nat) (w : World) (hS : Spans w p g r a b c d)
    (ha : -2147483648 ≤ a ∧ a ≤ 2147483647) (hb : -2147483648 ≤ b ∧ b ≤ 2147483647) (hc : -2147483648 ≤ c ∧ c ≤ 2147483647) (hd : -2147483648 ≤ d ∧ d ≤ 2147483647) :
    Calls Tryz.prog 189 #[.slice (some ⟨g, 0, none⟩) 2 2, .func (.func 188) #[] #[.pointer (some ⟨p, 0, none⟩)]] w fun e w' => (∃ n, e = .returned (.int .i64 n) ∧ decide (0 ≤ n) = (decide (a ≤ r) && decide (r ≤ b) || decide (c ≤ r) && decide (r ≤ d))) ∧ Below w.heap.size w w' := by
  have k1 := inSpan r a b ⟨p, 0, none⟩ w hS.hp ha hb
  have K2 : Hid (∀ w, Spans w p g r a b c d → Calls Tryz.prog 188 #[.agg #[.int .i32 c, .int .i32 d], .pointer (some ⟨p, 0, none⟩)] w _) := Lib.hid fun w h => inSpan r c d ⟨p, 0, none⟩ w h.hp hc hd
  clear ha hb hc hd
  generalize (decide (a ≤ r) && decide (r ≤ b)) = t1 at *
  generalize (decide (c ≤ r) && decide (r ≤ d)) = t2 at *
  obtain ⟨_, h0, h1, _, _⟩ := id hS
  go_enter Tryz.func189, Tryz.ntmps189
  go_wp2_with fail
  refine wp_loop_rounds 3 ?_
  rw [rounds_succ]
  go_wp2_with fail
  refine k1.mono ?_
  rintro e w1 ⟨rfl, hB1⟩
  have hS1 := hS.below hB1
  obtain ⟨_, _, _, g2, g3⟩ := id hS1
  clear h0 h1
  cases t1 with
  | true =>
    go_wp2_with fail
    go_ret
    exact ⟨⟨_, rfl, by simp⟩, hB1⟩
  | false =>
    go_wp2_with fail
    rw [rounds_succ]
    go_wp2_with fail
    refine (K2.out _ hS1).mono ?_
    rintro e w2 ⟨rfl, hB2⟩
    clear g2 g3
    cases t2 with
    | true =>
      go_wp2_with fail
      go_ret
      exact ⟨⟨_, rfl, by simp⟩, hB1.trans (hB2.mono hB1.size)⟩
    | false =>
      go_wp2_with fail
      rw [rounds_succ]
      go_wp2_with fail
      go_ret
      exact ⟨⟨_, rfl, by simp⟩, hB1.trans (hB2.mono hB1.size)⟩

set_option maxRecDepth 100000 in
theorem isIn_two (r a b c d : Int) (g : Nat) (w : World)
    (h0 : w.cell? ⟨g, 0, none⟩ = some (.int .i32 a)) (h1 : w.cell? ⟨g, 1, none⟩ = some (.int .i32 b)) (h2 : w.cell? ⟨g, 2, none⟩ = some (.int .i32 c)) (h3 : w.cell? ⟨g, 3, none⟩ = some (.int .i32 d))
    (ha : -2147483648 ≤ a ∧ a ≤ 2147483647) (hb : -2147483648 ≤ b ∧ b ≤ 2147483647) (hc : -2147483648 ≤ c ∧ c ≤ 2147483647) (hd : -2147483648 ≤ d ∧ d ≤ 2147483647) :
    Calls Tryz.prog 186 #[.int .i64 r, .slice (some ⟨g, 0, none⟩) 2 2] w fun e w' => e = .returned (.bool (decide (a ≤ r) && decide (r ≤ b) || decide (c ≤ r) && decide (r ≤ d))) ∧ Below w.heap.size w w' := by
  have hS : Spans (w.alloc (.cells #[.int .i64 r] 3)) w.heap.size g r a b c d := ⟨by simp, cell_alloc h0 _, cell_alloc h1 _, cell_alloc h2 _, cell_alloc h3 _⟩
  have K := Lib.hid (inSpans r a b c d w.heap.size g _ hS ha hb hc hd)
  clear ha hb hc hd h0 h1 h2 h3 hS
  generalize (decide (a ≤ r) && decide (r ≤ b) || decide (c ≤ r) && decide (r ≤ d)) = t at *
  go_enter Tryz.func186, Tryz.ntmps186
  go_wp2_with fail
  go_in
  go_wp2_with fail
  refine K.out.mono ?_
  rintro e w1 ⟨⟨n, rfl, hn⟩, hB1⟩
  go_wp2_with fail
  go_ret
  exact ⟨by subst hn; rfl, ((Below.refl _ _).alloc (Nat.le_refl _) _).trans (hB1.mono (by simp))⟩

/-- Is a number a rune? -/
def isScal (r : Int) : Bool := decide (0 ≤ r) && decide (r ≤ 55295) || decide (57344 ≤ r) && decide (r ≤ 1114111)

set_option maxRecDepth 100000 in
theorem isRune_any (r : Int) (w : World) :
    Calls Tryz.prog 185 #[.int .i64 r] w fun e w' => e = .returned (.bool (isScal r)) ∧ Below w.heap.size w w' := by
  unfold isScal
  have K : Hid (∀ (g : Nat) (w : World), _ → _ → _ → _ → Calls Tryz.prog 186 #[.int .i64 r, .slice (some ⟨g, 0, none⟩) 2 2] w _) :=
    Lib.hid fun g w h0 h1 h2 h3 => isIn_two r 0 55295 57344 1114111 g w h0 h1 h2 h3 (by omega) (by omega) (by omega) (by omega)
  go_enter Tryz.func185, Tryz.ntmps185
  go_wp2_with fail
  refine (K.out _ _ (by simp) (by simp) (by simp) (by simp)).mono ?_
  rintro e w1 ⟨rfl, hB1⟩
  go_wp2_with fail
  go_ret
  exact ⟨rfl, ((Below.refl _ _).alloc (Nat.le_refl _) _).trans (hB1.mono (by simp))⟩
end Go.Proofs.YtkfaejnpgdbhlaaGreatDoor
