/-
  The iterator of package num that hands out the digits of a number, the last one first: what it promises to every loop over it.
-/
import Derived.Test.YtkfaejnpgdbhlaaGreatDoorNumRune
import Derived.Test.YtkfaejnpgdbhlaaGreatDoorRange
import Derived.Shelf.Abstract
import Derived.Shelf.RegionOpen
import Derived.OwnWalkIn
import Derived.TacticsInMore
import Derived.LoopNIn
import Derived.LoopIn
import Derived.RangeFuncBound
import Derived.OneCell
import Derived.Test.YtkfaejnpgdbhlaaGreatDoorNumTake
import Derived.WalkMore
import Derived.ScopeJumps
namespace Go.Proofs.YtkfaejnpgdbhlaaGreatDoor
open Go.RowKit Go.Shelf
attribute [local go_sem] Oper.semAt_some

/-- A number's digits, the last one first. -/
def rdig (b : Nat) (n : Nat) : List Nat := if _h : b < 2 ∨ n < b then [n % b] else (n % b) :: rdig b (n / b)
termination_by n
decreasing_by exact Nat.div_lt_self (by omega) (by omega)

theorem rdig_step {b n : Nat} (hb : 2 ≤ b) : rdig b n = (n % b) :: (if n / b = 0 then [] else rdig b (n / b)) := by
  rw [rdig]
  by_cases h : n < b
  · rw [dif_pos (.inr h), if_pos (Nat.div_eq_of_lt h)]
  · rw [dif_neg (by omega), if_neg (by have := Nat.div_pos (by omega : b ≤ n) (by omega : 0 < b); omega)]

/-- What the cell of block k holds, as a number: for the loop's measure. -/
def readN (W : World) (k : Nat) : Nat := (intOf ((W.cell? ⟨k, 0, none⟩).getD undef)).toNat

theorem readN_of {W : World} {k n : Nat} {q : IntKind} {t : TypeId} (h : W.heap[k]? = some (.cells #[.int q n] t (0, 0))) : readN W k = n := by
  rw [readN, cell_of_one h]; simp [intOf]

theorem dig_all : ∀ b, b ≤ 16 → ∀ d, d < b → ((digStr b).data[d]?).map UInt8.toNat = some (code d) := by decide +kernel
theorem index_dig (b d : Nat) (hb : b ≤ 16) (h : d < b) (W : World) : (Instr.index 9 (.string (digStr b)) (.int .u64 (d : Int))).run Tryz.prog W = .ok (.int .u8 (code d)) W := by
  have hs := digStr_size b hb
  have hd := dig_all b hb d h
  have hl : d < (digStr b).data.size := by have : (digStr b).data.size = (digStr b).size := rfl; omega
  rw [run_index_string W 9 (digStr b) .u64 d Tryz.underlying9, dif_pos (by omega)]
  rw [Array.getElem?_eq_getElem hl] at hd
  have e : ((digStr b)[(d : Int).toNat]'(by omega)).toNat = code d := by simp only [Option.map_some, Option.some.injEq] at hd; exact hd
  rw [e]

/-- What the iterator leans on. -/
def RevKp (bb nb : Nat) (W W' : World) : Prop := W'.heap[bb]? = W.heap[bb]? ∧ W'.heap[nb]? = W.heap[nb]?

/-- Behind the test of a round: what yield answered. -/
def RevMid (J Jx : List Nat → World → Prop) (bb nb : Nat) (xs : List Nat) (W1 : World) (l : Nat) (u14 u15 u16 u17 u18 u19 : Value) : Exit → Act → World → Prop
  | .normal, a, W3 => ∃ r : Bool, After J Jx (RevKp bb nb) xs W1 r W3 ∧ ∃ t4 t5 t6 t7 t8 t9 t10 t11 t12,
    a = { tmps := #[.func (.yield l) #[] #[], .pointer (some ⟨bb, 0, none⟩), .pointer (some ⟨nb, 0, none⟩), undef, t4, t5, t6, t7, t8, t9, t10, t11, t12, .bool (!r), u14, u15, u16, u17, u18, u19], defers := [] }
  | .ret, _, _ => False
  | .exit _, _, _ => False
  | .goto _, _, _ => False
  | .panic _, _, _ => False
  | .outgrown, _, _ => False

set_option maxRecDepth 100000 in
set_option maxHeartbeats 1000000 in
theorem reversed_seq (bb nb b n0 : Nat) (hn0 : n0 < 18446744073709551616) (hb : 2 ≤ b) (hb16 : b ≤ 16) (hne : bb ≠ nb) (w : World)
    (h1 : w.heap[bb]? = some (.cells #[.int .u64 b, .string (digStr b)] 172 (0, 0))) (h2 : w.heap[nb]? = some (.cells #[.int .u64 n0] 23 (0, 0))) :
    Seq Tryz.prog 144 #[.pointer (some ⟨bb, 0, none⟩), .pointer (some ⟨nb, 0, none⟩)] (fun d : Nat => #[Value.int .u8 (code d)]) (fun k => k = nb)
      (RevKp bb nb) (fun pre x => pre ++ [x] <+: rdig b n0) (fun xs => xs = rdig b n0) (fun _ => True) w := by
  intro l J Jx W hW hJ hJx hY h0
  have k1 := (Array.getElem?_eq_some_iff.1 h1).1
  have k2 := (Array.getElem?_eq_some_iff.1 h2).1
  refine callsIn_of_wp Tryz.func144 rfl trivial ?_ rfl
  simp only [Tryz.ntmps144, List.size_toArray, List.length_cons, List.length_nil, Nat.reduceAdd, Nat.reduceSub, Array.replicate_succ, Array.replicate_zero, List.push_toArray, List.append_toArray, List.nil_append, List.cons_append]
  refine wpIn_wide.2 ?_
  go_wp2_with fail
  go_step3
  go_wp2_with fail
  go_step3
  go_wp2_with fail
  go_loopw [4] (fun _ wr => ∃ (pre : List Nat) (n : Nat), pre ++ rdig b n = rdig b n0 ∧ J pre wr ∧ wr.heap[bb]? = some (.cells #[.int .u64 b, .string (digStr b)] 172 (0, 0)) ∧ wr.heap[nb]? = some (.cells #[.int .u64 n] 23 (0, 0)) ∧ n < 18446744073709551616)
    (fun _ wr => readN wr nb)
  case atStart => exact ⟨[], n0, rfl, h0, (hW.block bb k1).trans h1, (hW.block nb k2).trans h2, hn0⟩
  case round =>
    obtain ⟨pre, n, hpre, hJs, g1, g2, hn⟩ := hrel
    have c0 : wr.cell? ⟨bb, 0, none⟩ = some (.int .u64 b) := by simp [World.cell?, g1]
    have c1 : wr.cell? ⟨bb, 1, none⟩ = some (.string (digStr b)) := by simp [World.cell?, g1]
    have c2 : wr.cell? ⟨nb, 0, none⟩ = some (.int .u64 n) := by simp [World.cell?, g2]
    go_wp2_with fail
    refine (wpIn_wide (n := 9)).1 ?_
    have hx : Hid (pre ++ [n % b] <+: rdig b n0) := by rw [← hpre, rdig_step hb]; exact ⟨_, by rw [List.append_assoc]; rfl⟩
    obtain ⟨fn, tmps, assign, body, hy, hR⟩ := Yld.bool (Kp := RevKp bb nb) (hY pre (n % b) wr.drew (hJ _ _ _ hJs (Steps.drew _)) hx.out)
    have hmix : Tryz.prog.follows .mixedOrders = true := by kernel_rfl
    have hidx : ∀ W, (Instr.index 9 (.string (digStr b)) (.int .u64 ((n : Int) % (b : Int)))).run Tryz.prog W = .ok (.int .u8 (code (n % b))) W := fun W => index_dig b (n % b) hb16 (Nat.mod_lt _ (by omega)) W
    have hb1 : ¬ (b : Int) = 0 := by omega
    have hb0 : (1 : Int) ≤ b := by omega
    refine wpIn_mono (Q := RevMid J Jx bb nb (pre ++ [n % b]) wr.drew l u14 u15 u16 u17 u18 u19) ?_ ?_
    · gi_region_with_o (refine (hR _).mono ?_; rintro e W3 ⟨r, rfl, hA⟩)
      all_goals exact ⟨_, hA, _, _, _, _, _, _, _, _, _, rfl⟩
    clear hy hR hidx hmix
    intro e a W3 hq
    cases e with
    | normal => ?_
    | _ => exact hq.elim
    obtain ⟨r, hA, t4, t5, t6, t7, t8, t9, t10, t11, t12, rfl⟩ := hq
    have hr4 := rdig_step (n := n) hb
    cases r with
    | false =>
      have hJ' : Jx (pre ++ [n % b]) W3 := hA
      have ht : (!false) = true := rfl
      go_wp2_with fail
      rw [Exit.noGoto_normal]
      go_end0
      exact ⟨⟨_, rfl⟩, .inr ⟨_, trivial, hJ'⟩⟩
    | true =>
      obtain ⟨hJ', hk1, hk2⟩ := hA
      have e1 : W3.heap[bb]? = some (.cells #[.int .u64 b, .string (digStr b)] 172 (0, 0)) := hk1.trans g1
      have e2 : W3.heap[nb]? = some (.cells #[.int .u64 n] 23 (0, 0)) := hk2.trans g2
      have d0 : W3.cell? ⟨bb, 0, none⟩ = some (.int .u64 b) := by simp [World.cell?, e1]
      have d2 := cell_of_one e2
      have d3 := free_of_one e2
      obtain ⟨q, hq⟩ : ∃ q, q = n / b := ⟨_, rfl⟩
      have hw : IntKind.u64.wrap ((n : Int) / (b : Int)) = (q : Int) := by rw [hq]; exact quo_wrap n b hn
      have hlt : q < n ∨ n = 0 := by
        rcases Nat.eq_zero_or_pos n with h | h
        · exact .inr h
        · exact .inl (by rw [hq]; exact Nat.div_lt_self h (by omega))
      have hqn : q ≤ n := by rw [hq]; exact Nat.div_le_self n b
      have E1 := Lib.hid e1
      have E2 := Lib.hid (one_setCell (u := Value.int .u64 q) e2)
      have E3 := Lib.hid g2
      have HJ := Lib.hid (hJ _ _ _ hJ' (Steps.setCell W3 (a := ⟨nb, 0, none⟩) (.int .u64 q) rfl))
      rw [← hq] at hr4
      have HR := Lib.hid hr4
      clear e1 e2 g1 g2 c0 c1 c2 hk1 hk2 hq hr4
      by_cases h0 : q = 0
      · have ht : ((q : Int) == 0) = true := by simp [h0]
        have H0 := Lib.hid h0
        clear h0
        go_wp2_with fail
        rw [Exit.noGoto_normal]
        go_end0
        refine ⟨⟨_, rfl⟩, .inl ⟨_, ?_, HJ.out⟩⟩
        rw [← hpre, HR.out, if_pos H0.out]
      · have ht : ((q : Int) == 0) = false := by simp [h0]
        have H0 := Lib.hid h0
        clear h0
        go_wp2_with fail
        go_roundw
        case rel => exact ⟨pre ++ [n % b], q, by rw [← hpre, HR.out, if_neg H0.out]; simp, HJ.out, (Below.heap_setCell _ _ _ _ hne).trans E1.out, E2.out, by omega⟩
        case measure => rw [readN_of E2.out, readN_of E3.out]; have := H0.out; omega
end Go.Proofs.YtkfaejnpgdbhlaaGreatDoor
