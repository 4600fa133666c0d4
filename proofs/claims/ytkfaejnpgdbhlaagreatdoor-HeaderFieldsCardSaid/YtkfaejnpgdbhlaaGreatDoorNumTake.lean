/-
  num's reader takes one rune: its method take by contract.
-/
import Derived.Test.YtkfaejnpgdbhlaaGreatDoorNumRune
import Derived.Deep.QuietTactic
import Derived.BigQuiet
import Derived.BigRegion
import Derived.WalkSmall
namespace Go.Proofs.YtkfaejnpgdbhlaaGreatDoor
open Go.RowKit

def lower (c : Int) : Int := if 65 ≤ c ∧ c ≤ 70 then c + 32 else c

/-- The slice of one rune that take is handed. -/
abbrev one (s : Nat) : Value := .slice (some ⟨s, 0, none⟩) 1 1

theorem sub_wrap (d : Nat) (h : d < 17) : IntKind.u64.wrap (18446744073709551615 - (d : Int)) = ((18446744073709551615 - d : Nat) : Int) := by
  have e : ((18446744073709551615 - d : Nat) : Int) = 18446744073709551615 - (d : Int) := by omega
  rw [e]
  exact IntWalk.u64_in _ (by omega)

theorem quo_wrap (m b : Nat) (h : m < 18446744073709551616) : IntKind.u64.wrap ((m : Int) / (b : Int)) = ((m / b : Nat) : Int) := by
  have e : ((m / b : Nat) : Int) = (m : Int) / (b : Int) := by simp
  rw [← e]
  have := Nat.div_le_self m b
  generalize m / b = z at *
  exact IntWalk.u64_in _ (by omega)
theorem mul_wrap (b x : Nat) (h : b * x < 18446744073709551616) : IntKind.u64.wrap ((x : Int) * (b : Int)) = ((b * x : Nat) : Int) := by
  have e : (x : Int) * (b : Int) = ((b * x : Nat) : Int) := by rw [Int.mul_comm]; simp
  rw [e]
  exact IntWalk.u64_in _ (by omega)
theorem add_wrap (p d : Nat) (h : p + d < 18446744073709551616) : IntKind.u64.wrap ((p : Int) + (d : Int)) = ((p + d : Nat) : Int) := by
  have e : (p : Int) + (d : Int) = ((p + d : Nat) : Int) := by simp
  rw [e]
  exact IntWalk.u64_in _ (by omega)
theorem set_third {w : World} {r : Nat} {a b c : Value} {t : TypeId} (n : Nat) (h : w.heap[r]? = some (.cells #[a, b, c] t (0, 0))) (u : Value) : ((w.drewN n).setCell ⟨r, 2, none⟩ u).heap[r]? = some (.cells #[a, b, u] t (0, 0)) := by
  have hlt : r < w.heap.size := (Array.getElem?_eq_some_iff.1 h).1
  have h' : w.heap[r] = .cells #[a, b, c] t (0, 0) := by simpa [Array.getElem?_eq_getElem hlt] using h
  show (w.heap.modify r _)[r]? = _
  rw [Array.getElem?_eq_getElem (by simpa using hlt), Array.getElem_modify_self, h']
  rfl
theorem grow_third {w w1 : World} (h : Below w.heap.size w w1) (r n : Nat) {u : Value} : w.grownBy ((w1.drewN n).setCell ⟨r, 2, none⟩ u) (some r) :=
  ⟨h.os, h.tape, h.output, by simpa [World.setCell] using h.size, fun k hk hn => by
    rw [Below.heap_setCell _ _ _ _ (fun e => hn (by rw [e]))]
    exact h.block k hk⟩
theorem fit_le {b x d : Nat} (hb : 0 < b) (hd : d ≤ 18446744073709551615) (h : x ≤ (18446744073709551615 - d) / b) : b * x + d ≤ 18446744073709551615 := by
  have h1 := (Nat.le_div_iff_mul_le hb).1 h
  rw [Nat.mul_comm] at h1
  omega

/- take, at a rune that is no digit of the base. -/
set_option maxRecDepth 100000 in
set_option maxHeartbeats 1000000 in
theorem take_bad (r s b : Nat) (hb : b ≤ 16) (x : Nat) (c : Int) (hc0 : -2147483648 ≤ c) (hc1 : c ≤ 2147483647) (w : World) {a1 a2 : Addr} (hE : NumErrs w a1 a2)
    (hr : w.heap[r]? = some (.cells #[.int .u64 b, .string (digStr b), .int .u64 x] 193 (0, 0)))
    (hs : w.cell? ⟨s, 0, none⟩ = some (.int .i32 c)) (hd : atDig b (lower c) = -1) :
    Calls Tryz.prog 133 #[.pointer (some ⟨r, 0, none⟩), one s] w fun e w' => e = .returned (.iface 252 (.pointer (some a2))) ∧ Below w.heap.size w w' := by
  have c0 : w.cell? ⟨r, 0, none⟩ = some (.int .u64 b) := by simp [World.cell?, hr]
  have c1 : w.cell? ⟨r, 1, none⟩ = some (.string (digStr b)) := by simp [World.cell?, hr]
  have c2 : w.cell? ⟨r, 2, none⟩ = some (.int .u64 x) := by simp [World.cell?, hr]
  have hr0 : r < w.heap.size := (Array.getElem?_eq_some_iff.1 hr).1
  have HD := Lib.hid hd
  have fz : w.frozen? ⟨r, 2, none⟩ = false := by simp [World.frozen?, hr]
  clear hr hd
  have hcs : (65 ≤ c ∧ c ≤ 70) ∨ c < 65 ∨ 70 < c := by omega
  rcases hcs with ⟨hu1, hu2⟩ | hu | hu
  · have HL := Lib.hid (show lower c = c + 32 by unfold lower; rw [if_pos ⟨hu1, hu2⟩])
    go_enter Tryz.func133, Tryz.ntmps133
    go_wp2_with fail
    refine wp_loop_rounds 2 ?_
    rw [rounds_succ]
    go_wp2_with fail
    rw [← HL.out]
    refine (runeAt_any b hb _ _).mono ?_
    rintro e w1 ⟨rfl, hB⟩
    rw [HD.out]
    have e2 := (hE.below hB).num
    clear HL HD hs c0 c1 c2 fz
    go_wp2_with fail
    go_quiet (fail)
    go_wp2
    go_ret
    exact ⟨rfl, below_drewN hB _⟩
  · have HL := Lib.hid (show lower c = c by unfold lower; rw [if_neg (by omega)])
    have h65 : ¬ 65 ≤ c := by omega
    go_enter Tryz.func133, Tryz.ntmps133
    go_wp2_with fail
    refine wp_loop_rounds 2 ?_
    rw [rounds_succ]
    go_wp2_with fail
    rw [← HL.out]
    refine (runeAt_any b hb _ _).mono ?_
    rintro e w1 ⟨rfl, hB⟩
    rw [HD.out]
    have e2 := (hE.below hB).num
    clear HL HD hs c0 c1 c2 fz
    go_wp2_with fail
    go_quiet (fail)
    go_wp2
    go_ret
    exact ⟨rfl, below_drewN hB _⟩
  · have HL := Lib.hid (show lower c = c by unfold lower; rw [if_neg (by omega)])
    have h65 : 65 ≤ c := by omega
    have h70 : ¬ c ≤ 70 := by omega
    go_enter Tryz.func133, Tryz.ntmps133
    go_wp2_with fail
    refine wp_loop_rounds 2 ?_
    rw [rounds_succ]
    go_wp2_with fail
    rw [← HL.out]
    refine (runeAt_any b hb _ _).mono ?_
    rintro e w1 ⟨rfl, hB⟩
    rw [HD.out]
    have e2 := (hE.below hB).num
    clear HL HD hs c0 c1 c2 fz
    go_wp2_with fail
    go_quiet (fail)
    go_wp2
    go_ret
    exact ⟨rfl, below_drewN hB _⟩

/- take, at a digit that makes the number too great. -/
set_option maxRecDepth 100000 in
set_option maxHeartbeats 1000000 in
theorem take_big (r s b : Nat) (hb : b ≤ 16) (hb2 : 2 ≤ b) (x : Nat) (c : Int) (hc0 : -2147483648 ≤ c) (hc1 : c ≤ 2147483647) (w : World) {a1 a2 : Addr} (hE : NumErrs w a1 a2)
    (hr : w.heap[r]? = some (.cells #[.int .u64 b, .string (digStr b), .int .u64 x] 193 (0, 0)))
    (hs : w.cell? ⟨s, 0, none⟩ = some (.int .i32 c)) (d : Nat) (hd : atDig b (lower c) = d) (hdb : d < b) (hbig : (18446744073709551615 - d) / b < x) :
    Calls Tryz.prog 133 #[.pointer (some ⟨r, 0, none⟩), one s] w fun e w' => e = .returned (.iface 252 (.pointer (some a2))) ∧ Below w.heap.size w w' := by
  have c0 : w.cell? ⟨r, 0, none⟩ = some (.int .u64 b) := by simp [World.cell?, hr]
  have c1 : w.cell? ⟨r, 1, none⟩ = some (.string (digStr b)) := by simp [World.cell?, hr]
  have c2 : w.cell? ⟨r, 2, none⟩ = some (.int .u64 x) := by simp [World.cell?, hr]
  have hr0 : r < w.heap.size := (Array.getElem?_eq_some_iff.1 hr).1
  have HD := Lib.hid hd
  have fz : w.frozen? ⟨r, 2, none⟩ = false := by simp [World.frozen?, hr]
  clear hr hd
  have hcs : (65 ≤ c ∧ c ≤ 70) ∨ c < 65 ∨ 70 < c := by omega
  rcases hcs with ⟨hu1, hu2⟩ | hu | hu
  · have HL := Lib.hid (show lower c = c + 32 by unfold lower; rw [if_pos ⟨hu1, hu2⟩])
    go_enter Tryz.func133, Tryz.ntmps133
    go_wp2_with fail
    refine wp_loop_rounds 2 ?_
    rw [rounds_succ]
    go_wp2_with fail
    rw [← HL.out]
    refine (runeAt_any b hb _ _).mono ?_
    rintro e w1 ⟨rfl, hB⟩
    rw [HD.out]
    have e2 := (hE.below hB).num
    have c0 : w1.cell? ⟨r, 0, none⟩ = some (.int .u64 b) := (hB.cell (p := ⟨r, 0, none⟩) hr0).trans c0
    have c2 : w1.cell? ⟨r, 2, none⟩ = some (.int .u64 x) := (hB.cell (p := ⟨r, 2, none⟩) hr0).trans c2
    clear HL HD hs c1 fz
    obtain ⟨m, hm⟩ : ∃ m, m = 18446744073709551615 - d := ⟨_, rfl⟩
    have hw1 : IntKind.u64.wrap (18446744073709551615 - (d : Int)) = (m : Int) := by rw [hm]; exact sub_wrap d (by omega)
    rw [← hm] at hbig
    obtain ⟨q, hq⟩ : ∃ q, q = m / b := ⟨_, rfl⟩
    have hw2 : IntKind.u64.wrap ((m : Int) / (b : Int)) = (q : Int) := by rw [hq]; exact quo_wrap m b (by omega)
    rw [← hq] at hbig
    have hlt : ((q : Int) < (x : Int)) := by exact_mod_cast hbig
    clear hm hq hbig
    have hd0 : ¬ ((d : Int) < 0) := by omega
    have hdd : decide ((d : Int) < 0) = false := by simp
    have hb0 : (1 : Int) ≤ b := by omega
    have hb1 : ¬ (b : Int) = 0 := by omega
    go_wp2_with fail
    go_quiet (fail)
    go_wp2
    go_ret
    exact ⟨rfl, below_drewN hB _⟩
  · have HL := Lib.hid (show lower c = c by unfold lower; rw [if_neg (by omega)])
    have h65 : ¬ 65 ≤ c := by omega
    go_enter Tryz.func133, Tryz.ntmps133
    go_wp2_with fail
    refine wp_loop_rounds 2 ?_
    rw [rounds_succ]
    go_wp2_with fail
    rw [← HL.out]
    refine (runeAt_any b hb _ _).mono ?_
    rintro e w1 ⟨rfl, hB⟩
    rw [HD.out]
    have e2 := (hE.below hB).num
    have c0 : w1.cell? ⟨r, 0, none⟩ = some (.int .u64 b) := (hB.cell (p := ⟨r, 0, none⟩) hr0).trans c0
    have c2 : w1.cell? ⟨r, 2, none⟩ = some (.int .u64 x) := (hB.cell (p := ⟨r, 2, none⟩) hr0).trans c2
    clear HL HD hs c1 fz
    obtain ⟨m, hm⟩ : ∃ m, m = 18446744073709551615 - d := ⟨_, rfl⟩
    have hw1 : IntKind.u64.wrap (18446744073709551615 - (d : Int)) = (m : Int) := by rw [hm]; exact sub_wrap d (by omega)
    rw [← hm] at hbig
    obtain ⟨q, hq⟩ : ∃ q, q = m / b := ⟨_, rfl⟩
    have hw2 : IntKind.u64.wrap ((m : Int) / (b : Int)) = (q : Int) := by rw [hq]; exact quo_wrap m b (by omega)
    rw [← hq] at hbig
    have hlt : ((q : Int) < (x : Int)) := by exact_mod_cast hbig
    clear hm hq hbig
    have hd0 : ¬ ((d : Int) < 0) := by omega
    have hdd : decide ((d : Int) < 0) = false := by simp
    have hb0 : (1 : Int) ≤ b := by omega
    have hb1 : ¬ (b : Int) = 0 := by omega
    go_wp2_with fail
    go_quiet (fail)
    go_wp2
    go_ret
    exact ⟨rfl, below_drewN hB _⟩
  · have HL := Lib.hid (show lower c = c by unfold lower; rw [if_neg (by omega)])
    have h65 : 65 ≤ c := by omega
    have h70 : ¬ c ≤ 70 := by omega
    go_enter Tryz.func133, Tryz.ntmps133
    go_wp2_with fail
    refine wp_loop_rounds 2 ?_
    rw [rounds_succ]
    go_wp2_with fail
    rw [← HL.out]
    refine (runeAt_any b hb _ _).mono ?_
    rintro e w1 ⟨rfl, hB⟩
    rw [HD.out]
    have e2 := (hE.below hB).num
    have c0 : w1.cell? ⟨r, 0, none⟩ = some (.int .u64 b) := (hB.cell (p := ⟨r, 0, none⟩) hr0).trans c0
    have c2 : w1.cell? ⟨r, 2, none⟩ = some (.int .u64 x) := (hB.cell (p := ⟨r, 2, none⟩) hr0).trans c2
    clear HL HD hs c1 fz
    obtain ⟨m, hm⟩ : ∃ m, m = 18446744073709551615 - d := ⟨_, rfl⟩
    have hw1 : IntKind.u64.wrap (18446744073709551615 - (d : Int)) = (m : Int) := by rw [hm]; exact sub_wrap d (by omega)
    rw [← hm] at hbig
    obtain ⟨q, hq⟩ : ∃ q, q = m / b := ⟨_, rfl⟩
    have hw2 : IntKind.u64.wrap ((m : Int) / (b : Int)) = (q : Int) := by rw [hq]; exact quo_wrap m b (by omega)
    rw [← hq] at hbig
    have hlt : ((q : Int) < (x : Int)) := by exact_mod_cast hbig
    clear hm hq hbig
    have hd0 : ¬ ((d : Int) < 0) := by omega
    have hdd : decide ((d : Int) < 0) = false := by simp
    have hb0 : (1 : Int) ≤ b := by omega
    have hb1 : ¬ (b : Int) = 0 := by omega
    go_wp2_with fail
    go_quiet (fail)
    go_wp2
    go_ret
    exact ⟨rfl, below_drewN hB _⟩
/- take, at a digit that fits. -/
set_option maxRecDepth 100000 in
set_option maxHeartbeats 1000000 in
theorem take_ok (r s b : Nat) (hb : b ≤ 16) (hb2 : 2 ≤ b) (x : Nat) (c : Int) (hc0 : -2147483648 ≤ c) (hc1 : c ≤ 2147483647) (w : World) {a1 a2 : Addr} (hE : NumErrs w a1 a2)
    (hr : w.heap[r]? = some (.cells #[.int .u64 b, .string (digStr b), .int .u64 x] 193 (0, 0)))
    (hs : w.cell? ⟨s, 0, none⟩ = some (.int .i32 c)) (d : Nat) (hd : atDig b (lower c) = d) (hdb : d < b) (t : Nat) (ht : t = b * x + d) (hfit : x ≤ (18446744073709551615 - d) / b) :
    Calls Tryz.prog 133 #[.pointer (some ⟨r, 0, none⟩), one s] w fun e w' => e = .returned .nilIface ∧ w'.heap[r]? = some (.cells #[.int .u64 b, .string (digStr b), .int .u64 t] 193 (0, 0)) ∧ w.grownBy w' (some r) := by
  have c0 : w.cell? ⟨r, 0, none⟩ = some (.int .u64 b) := by simp [World.cell?, hr]
  have c1 : w.cell? ⟨r, 1, none⟩ = some (.string (digStr b)) := by simp [World.cell?, hr]
  have c2 : w.cell? ⟨r, 2, none⟩ = some (.int .u64 x) := by simp [World.cell?, hr]
  have hr0 : r < w.heap.size := (Array.getElem?_eq_some_iff.1 hr).1
  have HD := Lib.hid hd
  have fz : w.frozen? ⟨r, 2, none⟩ = false := by simp [World.frozen?, hr]
  have HR := Lib.hid hr
  clear hr hd
  have hcs : (65 ≤ c ∧ c ≤ 70) ∨ c < 65 ∨ 70 < c := by omega
  rcases hcs with ⟨hu1, hu2⟩ | hu | hu
  · have HL := Lib.hid (show lower c = c + 32 by unfold lower; rw [if_pos ⟨hu1, hu2⟩])
    go_enter Tryz.func133, Tryz.ntmps133
    go_wp2_with fail
    refine wp_loop_rounds 2 ?_
    rw [rounds_succ]
    go_wp2_with fail
    rw [← HL.out]
    refine (runeAt_any b hb _ _).mono ?_
    rintro e w1 ⟨rfl, hB⟩
    rw [HD.out]
    have e2 := (hE.below hB).num
    have c0 : w1.cell? ⟨r, 0, none⟩ = some (.int .u64 b) := (hB.cell (p := ⟨r, 0, none⟩) hr0).trans c0
    have c2 : w1.cell? ⟨r, 2, none⟩ = some (.int .u64 x) := (hB.cell (p := ⟨r, 2, none⟩) hr0).trans c2
    clear HL HD hs c1
    obtain ⟨m, hm⟩ : ∃ m, m = 18446744073709551615 - d := ⟨_, rfl⟩
    have hw1 : IntKind.u64.wrap (18446744073709551615 - (d : Int)) = (m : Int) := by rw [hm]; exact sub_wrap d (by omega)
    have hxm : b * x + d ≤ 18446744073709551615 := fit_le (by omega) (by omega) hfit
    rw [← hm] at hfit
    obtain ⟨q, hq⟩ : ∃ q, q = m / b := ⟨_, rfl⟩
    have hw2 : IntKind.u64.wrap ((m : Int) / (b : Int)) = (q : Int) := by rw [hq]; exact quo_wrap m b (by omega)
    rw [← hq] at hfit
    have hlt : ¬ ((q : Int) < (x : Int)) := by omega
    obtain ⟨p, hp⟩ : ∃ p, p = b * x := ⟨_, rfl⟩
    have hw3 : IntKind.u64.wrap ((x : Int) * (b : Int)) = (p : Int) := by rw [hp]; exact mul_wrap b x (by omega)
    have hw4 : IntKind.u64.wrap ((p : Int) + (d : Int)) = (t : Int) := by rw [ht, hp]; exact add_wrap (b * x) d (by omega)
    have fz : w1.frozen? ⟨r, 2, none⟩ = false := (hB.frozen (p := ⟨r, 2, none⟩) hr0).trans fz
    clear hm hq hp ht hxm hfit
    have hd0 : ¬ ((d : Int) < 0) := by omega
    have hdd : decide ((d : Int) < 0) = false := by simp
    have hb0 : (1 : Int) ≤ b := by omega
    have hb1 : ¬ (b : Int) = 0 := by omega
    go_wp2_with fail
    go_quiet (fail)
    go_wp2
    go_region
    all_goals go_wp2
    rw [rounds_succ]
    go_wp2
    go_ret
    exact ⟨rfl, set_third _ ((hB.block r hr0).trans HR.out) _, grow_third hB _ _⟩
  · have HL := Lib.hid (show lower c = c by unfold lower; rw [if_neg (by omega)])
    have h65 : ¬ 65 ≤ c := by omega
    go_enter Tryz.func133, Tryz.ntmps133
    go_wp2_with fail
    refine wp_loop_rounds 2 ?_
    rw [rounds_succ]
    go_wp2_with fail
    rw [← HL.out]
    refine (runeAt_any b hb _ _).mono ?_
    rintro e w1 ⟨rfl, hB⟩
    rw [HD.out]
    have e2 := (hE.below hB).num
    have c0 : w1.cell? ⟨r, 0, none⟩ = some (.int .u64 b) := (hB.cell (p := ⟨r, 0, none⟩) hr0).trans c0
    have c2 : w1.cell? ⟨r, 2, none⟩ = some (.int .u64 x) := (hB.cell (p := ⟨r, 2, none⟩) hr0).trans c2
    clear HL HD hs c1
    obtain ⟨m, hm⟩ : ∃ m, m = 18446744073709551615 - d := ⟨_, rfl⟩
    have hw1 : IntKind.u64.wrap (18446744073709551615 - (d : Int)) = (m : Int) := by rw [hm]; exact sub_wrap d (by omega)
    have hxm : b * x + d ≤ 18446744073709551615 := fit_le (by omega) (by omega) hfit
    rw [← hm] at hfit
    obtain ⟨q, hq⟩ : ∃ q, q = m / b := ⟨_, rfl⟩
    have hw2 : IntKind.u64.wrap ((m : Int) / (b : Int)) = (q : Int) := by rw [hq]; exact quo_wrap m b (by omega)
    rw [← hq] at hfit
    have hlt : ¬ ((q : Int) < (x : Int)) := by omega
    obtain ⟨p, hp⟩ : ∃ p, p = b * x := ⟨_, rfl⟩
    have hw3 : IntKind.u64.wrap ((x : Int) * (b : Int)) = (p : Int) := by rw [hp]; exact mul_wrap b x (by omega)
    have hw4 : IntKind.u64.wrap ((p : Int) + (d : Int)) = (t : Int) := by rw [ht, hp]; exact add_wrap (b * x) d (by omega)
    have fz : w1.frozen? ⟨r, 2, none⟩ = false := (hB.frozen (p := ⟨r, 2, none⟩) hr0).trans fz
    clear hm hq hp ht hxm hfit
    have hd0 : ¬ ((d : Int) < 0) := by omega
    have hdd : decide ((d : Int) < 0) = false := by simp
    have hb0 : (1 : Int) ≤ b := by omega
    have hb1 : ¬ (b : Int) = 0 := by omega
    go_wp2_with fail
    go_quiet (fail)
    go_wp2
    go_region
    all_goals go_wp2
    rw [rounds_succ]
    go_wp2
    go_ret
    exact ⟨rfl, set_third _ ((hB.block r hr0).trans HR.out) _, grow_third hB _ _⟩
  · have HL := Lib.hid (show lower c = c by unfold lower; rw [if_neg (by omega)])
    have h65 : 65 ≤ c := by omega
    have h70 : ¬ c ≤ 70 := by omega
    go_enter Tryz.func133, Tryz.ntmps133
    go_wp2_with fail
    refine wp_loop_rounds 2 ?_
    rw [rounds_succ]
    go_wp2_with fail
    rw [← HL.out]
    refine (runeAt_any b hb _ _).mono ?_
    rintro e w1 ⟨rfl, hB⟩
    rw [HD.out]
    have e2 := (hE.below hB).num
    have c0 : w1.cell? ⟨r, 0, none⟩ = some (.int .u64 b) := (hB.cell (p := ⟨r, 0, none⟩) hr0).trans c0
    have c2 : w1.cell? ⟨r, 2, none⟩ = some (.int .u64 x) := (hB.cell (p := ⟨r, 2, none⟩) hr0).trans c2
    clear HL HD hs c1
    obtain ⟨m, hm⟩ : ∃ m, m = 18446744073709551615 - d := ⟨_, rfl⟩
    have hw1 : IntKind.u64.wrap (18446744073709551615 - (d : Int)) = (m : Int) := by rw [hm]; exact sub_wrap d (by omega)
    have hxm : b * x + d ≤ 18446744073709551615 := fit_le (by omega) (by omega) hfit
    rw [← hm] at hfit
    obtain ⟨q, hq⟩ : ∃ q, q = m / b := ⟨_, rfl⟩
    have hw2 : IntKind.u64.wrap ((m : Int) / (b : Int)) = (q : Int) := by rw [hq]; exact quo_wrap m b (by omega)
    rw [← hq] at hfit
    have hlt : ¬ ((q : Int) < (x : Int)) := by omega
    obtain ⟨p, hp⟩ : ∃ p, p = b * x := ⟨_, rfl⟩
    have hw3 : IntKind.u64.wrap ((x : Int) * (b : Int)) = (p : Int) := by rw [hp]; exact mul_wrap b x (by omega)
    have hw4 : IntKind.u64.wrap ((p : Int) + (d : Int)) = (t : Int) := by rw [ht, hp]; exact add_wrap (b * x) d (by omega)
    have fz : w1.frozen? ⟨r, 2, none⟩ = false := (hB.frozen (p := ⟨r, 2, none⟩) hr0).trans fz
    clear hm hq hp ht hxm hfit
    have hd0 : ¬ ((d : Int) < 0) := by omega
    have hdd : decide ((d : Int) < 0) = false := by simp
    have hb0 : (1 : Int) ≤ b := by omega
    have hb1 : ¬ (b : Int) = 0 := by omega
    go_wp2_with fail
    go_quiet (fail)
    go_wp2
    go_region
    all_goals go_wp2
    rw [rounds_succ]
    go_wp2
    go_ret
    exact ⟨rfl, set_third _ ((hB.block r hr0).trans HR.out) _, grow_third hB _ _⟩
end Go.Proofs.YtkfaejnpgdbhlaaGreatDoor
