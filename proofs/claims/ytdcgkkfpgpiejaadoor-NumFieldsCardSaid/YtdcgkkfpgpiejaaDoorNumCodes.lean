/-
  The statement NumCodes: numbers' digits, and numbers of digits, as the reference has them. Its walk.
-/
import Derived.Test.YtdcgkkfpgpiejaaDoorRefGet
namespace Go.Proofs.YtdcgkkfpgpiejaaDoor
open Go.RowKit

theorem getRes_pair (o : Option Nat) : ∃ a e : Int, GetRes o = .tuple #[.int .u64 a, .int .i64 e] := by
  cases o <;> exact ⟨_, _, rfl⟩

set_option maxRecDepth 100000 in
set_option maxHeartbeats 1000000 in
/-- Where both answer alike, the statement holds. -/
theorem codes_same (b n : Int) (s t p : ByteArray) (a e c g : Int) (w : World) {a1 a2 : Addr} (hE : NumErrs w a1 a2)
    (h0 : Calls Tryd.prog 11 #[] w fun e w' => e = .returned (.bool true) ∧ Below w.heap.size w w')
    (K0 : Hid (∀ w, Calls Tryd.prog 19 #[.string s] w fun e w' => e = .returned (.string t) ∧ w = w'))
    (K1 : Hid (∀ w, NumErrs w a1 a2 → Calls Tryd.prog 15 #[.int .i64 b, .string t] w fun x w' => x = .returned (.tuple #[.int .u64 a, .int .i64 e]) ∧ Below w.heap.size w w'))
    (K2 : Hid (∀ w, Calls Tryd.prog 22 #[.int .i64 b, .string t] w fun x w' => x = .returned (.tuple #[.int .u64 a, .int .i64 e]) ∧ w = w'))
    (K3 : Hid (∀ w, NumErrs w a1 a2 → Calls Tryd.prog 23 #[.int .i64 b, .string t] w fun x w' => x = .returned (.tuple #[.int .u64 c, .int .i64 g]) ∧ Below w.heap.size w w'))
    (K4 : Hid (∀ w, Calls Tryd.prog 24 #[.int .i64 b, .string t] w fun x w' => x = .returned (.tuple #[.int .u64 c, .int .i64 g]) ∧ Below w.heap.size w w'))
    (K5 : Hid (∀ w, NumErrs w a1 a2 → Calls Tryd.prog 12 #[.int .i64 b, .int .u64 n] w fun x w' => x = .returned (.string p) ∧ Below w.heap.size w w'))
    (K6 : Hid (∀ w, Calls Tryd.prog 25 #[.int .i64 b, .int .u64 n] w fun x w' => x = .returned (.string p) ∧ Below w.heap.size w w')) :
    Calls Tryd.prog 9 #[.int .i64 b, .int .u64 n, .string s] w fun e w' => e = .returned (.bool true) ∧ Below w.heap.size w w' := by
  go_enter Tryd.func9, Tryd.ntmps9
  go_wp2_with fail
  refine h0.mono ?_
  rintro x w1 ⟨rfl, hB1⟩
  have hE1 := hE.below hB1
  clear h0
  go_wp2_with fail
  refine (K0.out _).mono ?_
  rintro x w' ⟨rfl, rfl⟩
  go_wp2_with fail
  refine (K1.out _ hE1).mono ?_
  rintro x w2 ⟨rfl, hB2⟩
  have hE2 := hE1.below hB2
  go_wp2_with fail
  refine (K0.out _).mono ?_
  rintro x w' ⟨rfl, rfl⟩
  go_wp2_with fail
  refine (K2.out _).mono ?_
  rintro x w' ⟨rfl, rfl⟩
  go_wp2_with fail
  refine (K0.out _).mono ?_
  rintro x w' ⟨rfl, rfl⟩
  go_wp2_with fail
  refine (K3.out _ hE2).mono ?_
  rintro x w3 ⟨rfl, hB3⟩
  have hE3 := hE2.below hB3
  go_wp2_with fail
  refine (K0.out _).mono ?_
  rintro x w' ⟨rfl, rfl⟩
  go_wp2_with fail
  refine (K4.out _).mono ?_
  rintro x w4 ⟨rfl, hB4⟩
  have hE4 := hE3.below hB4
  go_wp2_with fail
  refine (K5.out _ hE4).mono ?_
  rintro x w5 ⟨rfl, hB5⟩
  go_wp2_with fail
  refine (K6.out _).mono ?_
  rintro x w6 ⟨rfl, hB6⟩
  go_wp2_with fail
  go_ret
  exact ⟨rfl, bthen (bthen (bthen (bthen (bthen hB1 hB2) hB3) hB4) hB5) hB6⟩

theorem same_calls {f : FuncId} {vs : Array Value} {w : World} {v : Value} (h : Calls Tryd.prog f vs w fun x w' => x = .returned v ∧ w = w') : Calls Tryd.prog f vs w fun x w' => x = .returned v ∧ Below w.heap.size w w' :=
  h.mono fun _ _ ⟨h1, h2⟩ => ⟨h1, by subst h2; exact Below.refl _ _⟩

theorem codes_base (b : Nat) (hb : b = 8 ∨ b = 10 ∨ b = 16) (n : Nat) (hn : n < 18446744073709551616) (s : ByteArray) (hs : s.size ≤ 140737488351232) (w : World) {a1 a2 : Addr} (hE : NumErrs w a1 a2) :
    Calls Tryd.prog 9 #[.int .i64 b, .int .u64 n, .string s] w fun e w' => e = .returned (.bool true) ∧ Below w.heap.size w w' := by
  have ht : (firstB 50 s).size ≤ 140737488351232 := by have := firstB_le 50 s; omega
  obtain ⟨a, e, h1⟩ := getRes_pair (getN b (firstB 50 s).data.toList)
  obtain ⟨c, g, h2⟩ := getRes_pair (ownN b (firstB 50 s).data.toList)
  refine codes_same b n s (firstB 50 s) ⟨(putL b n).toArray⟩ a e c g w hE (shown_true w hE) (Lib.hid fun w => cut_any s hs w) ?_ ?_ ?_ ?_ (Lib.hid fun w _ => Put_base b hb n hn w) (Lib.hid fun w => ref_Put_base b hb n hn w)
  · rw [← h1]; exact Lib.hid fun w h => Get_base b hb _ ht w h
  · rw [← h1]; exact Lib.hid fun w => ref_Get_base b hb _ ht w
  · rw [← h2]; exact Lib.hid fun w h => Own_base b hb _ ht w h
  · rw [← h2]; exact Lib.hid fun w => ref_Own_base b hb _ ht w

theorem NumCodes_law (b n : Int) (s : ByteArray) (hb : (Lit.int .i64 b).wf = true) (hn : (Lit.int .u64 n).wf = true) (hs : s.size ≤ 140737488351232) (w : World) {a1 a2 : Addr} (hE : NumErrs w a1 a2) :
    Calls Tryd.prog 9 #[.int .i64 b, .int .u64 n, .string s] w fun e w' => e = .returned (.bool true) ∧ Below w.heap.size w w' := by
  obtain ⟨n, rfl, hn'⟩ := u64_nat hn
  by_cases h8 : b = 8
  · subst h8; exact codes_base 8 (by omega) n hn' s hs w hE
  by_cases h10 : b = 10
  · subst h10; exact codes_base 10 (by omega) n hn' s hs w hE
  by_cases h16 : b = 16
  · subst h16; exact codes_base 16 (by omega) n hn' s hs w hE
  exact codes_same b n s (firstB 50 s) ⟨#[]⟩ 0 2 0 2 w hE (shown_true w hE) (Lib.hid fun w => cut_any s hs w)
    (Lib.hid fun w h => Get_none b hb h8 h10 h16 _ w h) (Lib.hid fun w => ref_Get_none b h8 h10 h16 _ w)
    (Lib.hid fun w h => Own_none b hb h8 h10 h16 _ w h) (Lib.hid fun w => same_calls (ref_Own_none b h8 h10 h16 _ w))
    (Lib.hid fun w h => Put_none b hb h8 h10 h16 _ w h) (Lib.hid fun w => same_calls (ref_Put_none b h8 h10 h16 _ w))
end Go.Proofs.YtdcgkkfpgpiejaaDoor
