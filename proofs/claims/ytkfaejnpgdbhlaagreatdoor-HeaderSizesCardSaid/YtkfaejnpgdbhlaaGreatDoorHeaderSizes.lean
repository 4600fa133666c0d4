/-
  The statement HeaderSizes: which sizes a file may have. Its walk.
-/
import Derived.Test.YtkfaejnpgdbhlaaGreatDoorHeadAll
namespace Go.Proofs.YtkfaejnpgdbhlaaGreatDoor
open Go.RowKit

theorem right_split {q : List UInt8} (h : rightL q = true) (hl : q.length ≤ 50) : splitL q = some ([], q) := by
  unfold splitL
  rw [if_pos h, if_pos (by omega)]
theorem wrong_split {q : List UInt8} (h : rightL q = false) : splitL q = none := by
  unfold splitL
  rw [if_neg (by rw [h]; decide)]

theorem put_wrong {q : List UInt8} (h : rightL q = false) (t : UInt8) (n : Nat) : putHL q t n = none := by
  unfold putHL headL
  rw [wrong_split h]; rfl
theorem put_file {q : List UInt8} (h : rightL q = true) (hl : q.length ≤ 50) {n : Nat} (hn : n ≤ 8589934591) : ∃ b, putHL q 48 n = some b ∧ b.length = 512 := by
  have e : headL q 48 n = some ([], q) := by unfold headL; rw [right_split h hl]; simp [hn]
  exact ⟨_, putHL_some e, putHL_len (putHL_some e)⟩
theorem put_large {q : List UInt8} {n : Nat} (hn : ¬ n ≤ 8589934591) : putHL q 48 n = none := by
  unfold putHL headL
  cases splitL q with
  | none => rfl
  | some pn => simp [hn]
theorem put_dir0 {q : List UInt8} (h : rightL q = true) (hl : q.length ≤ 50) : ∃ b, putHL q 53 0 = some b := by
  have e : headL q 53 0 = some ([], q) := by unfold headL; rw [right_split h hl]; simp [show q.length < 100 by omega]
  exact ⟨_, putHL_some e⟩
theorem put_dirn {q : List UInt8} {n : Nat} (hn : n ≠ 0) : putHL q 53 n = none := by
  unfold putHL headL
  cases splitL q with
  | none => rfl
  | some pn => simp [hn]

set_option maxRecDepth 100000 in
set_option maxHeartbeats 1000000 in
theorem HeaderSizes_law (x : Int) (s : ByteArray) (hx : (Lit.int .u64 x).wf = true) (hs : s.size ≤ 140737488351232) (w : World) {ea : Addr} (hE : PathErr w ea) :
    Calls Tryz.prog 7 #[.int .u64 x, .string s] w fun e w' => e = .returned (.bool true) ∧ Below w.heap.size w w' := by
  obtain ⟨n, rfl, hn⟩ := u64_nat hx
  have h0 := shown_true w hE
  obtain ⟨q, hq⟩ : ∃ q, s.extract 0 (min (s.size : Int) 50).toNat = q := ⟨_, rfl⟩
  have hqs : q.size ≤ 50 := by rw [← hq, ByteArray.size_extract]; omega
  have hql : q.data.toList.length ≤ 50 := by simpa using hqs
  have KA : ∀ W, PathErr W ea → Calls Tryz.prog 17 #[.agg #[.string q, .int .u8 48, .int .u64 n]] W fun e w' => e = .returned (PutRes (putHL q.data.toList 48 n)) ∧ Below W.heap.size W w' := fun W h => PutH_any q (by omega) 48 n W h
  have KB : ∀ W, PathErr W ea → Calls Tryz.prog 17 #[.agg #[.string q, .int .u8 53, .int .u64 n]] W fun e w' => e = .returned (PutRes (putHL q.data.toList 53 n)) ∧ Below W.heap.size W w' := fun W h => PutH_any q (by omega) 53 n W h
  have KC : ∀ W, PathErr W ea → Calls Tryz.prog 17 #[.agg #[.string q, .int .u8 48, .int .u64 0]] W fun e w' => e = .returned (PutRes (putHL q.data.toList 48 0)) ∧ Below W.heap.size W w' := fun W h => PutH_any q (by omega) 48 0 W h
  clear hx hqs
  cases hr : rightL q.data.toList with
  | false =>
    rw [put_wrong hr] at KA KB KC
    replace KA := Lib.hid KA
    replace KB := Lib.hid KB
    replace KC := Lib.hid KC
    clear hr hql hn
    go_enter Tryz.func7, Tryz.ntmps7
    go_wp2_with fail
    refine h0.mono ?_
    rintro e w1 ⟨rfl, hB1⟩
    have hE1 := hE.below hB1
    go_wp2_with fail
    refine (KA.out _ hE1).mono ?_
    rintro e w2 ⟨rfl, hB2⟩
    have hE2 := hE1.below hB2
    simp only [PutRes]
    go_wp2_with fail
    refine (KB.out _ hE2).mono ?_
    rintro e w3 ⟨rfl, hB3⟩
    have hE3 := hE2.below hB3
    simp only [PutRes]
    go_wp2_with fail
    refine (KC.out _ hE3).mono ?_
    rintro e w4 ⟨rfl, hB4⟩
    simp only [PutRes]
    go_wp2_with fail
    go_ret
    exact ⟨rfl, bthen (bthen (bthen hB1 hB2) hB3) hB4⟩
  | true =>
    obtain ⟨C, hC, hCl⟩ := put_file hr hql (n := 0) (by omega)
    rw [hC] at KC
    by_cases h0n : n = 0
    · subst h0n
      obtain ⟨B, hB⟩ := put_dir0 hr hql
      rw [hC] at KA
      rw [hB] at KB
      have hCs : (⟨C.toArray⟩ : ByteArray).size = 512 := hCl
      replace KA := Lib.hid KA
      replace KB := Lib.hid KB
      replace KC := Lib.hid KC
      clear hr hql hn hC hB hCl
      go_enter Tryz.func7, Tryz.ntmps7
      go_wp2_with fail
      refine h0.mono ?_
      rintro e w1 ⟨rfl, hB1⟩
      have hE1 := hE.below hB1
      go_wp2_with fail
      refine (KA.out _ hE1).mono ?_
      rintro e w2 ⟨rfl, hB2⟩
      have hE2 := hE1.below hB2
      simp only [PutRes]
      go_wp2_with fail
      refine (KB.out _ hE2).mono ?_
      rintro e w3 ⟨rfl, hB3⟩
      have hE3 := hE2.below hB3
      simp only [PutRes]
      go_wp2_with fail
      refine (KC.out _ hE3).mono ?_
      rintro e w4 ⟨rfl, hB4⟩
      simp only [PutRes]
      go_wp2_with fail
      go_ret
      exact ⟨rfl, bthen (bthen (bthen hB1 hB2) hB3) hB4⟩
    · rw [put_dirn h0n] at KB
      have hn0 : ¬ (n : Int) = 0 := by omega
      have hnb : ((n : Int) == 0) = false := by simpa using hn0
      by_cases hl : n ≤ 8589934591
      · obtain ⟨A, hA, hAl⟩ := put_file hr hql hl
        rw [hA] at KA
        have hAs : (⟨A.toArray⟩ : ByteArray).size = 512 := hAl
        have hlt : (n : Int) < 8589934592 := by omega
        replace KA := Lib.hid KA
        replace KB := Lib.hid KB
        replace KC := Lib.hid KC
        clear hr hql hn hC hA hAl hCl h0n hl
        go_enter Tryz.func7, Tryz.ntmps7
        go_wp2_with fail
        refine h0.mono ?_
        rintro e w1 ⟨rfl, hB1⟩
        have hE1 := hE.below hB1
        go_wp2_with fail
        refine (KA.out _ hE1).mono ?_
        rintro e w2 ⟨rfl, hB2⟩
        have hE2 := hE1.below hB2
        simp only [PutRes]
        go_wp2_with fail
        refine (KB.out _ hE2).mono ?_
        rintro e w3 ⟨rfl, hB3⟩
        have hE3 := hE2.below hB3
        simp only [PutRes]
        go_wp2_with fail
        refine (KC.out _ hE3).mono ?_
        rintro e w4 ⟨rfl, hB4⟩
        simp only [PutRes]
        go_wp2_with fail
        go_ret
        exact ⟨rfl, bthen (bthen (bthen hB1 hB2) hB3) hB4⟩
      · rw [put_large hl] at KA
        have hlt : ((n : Int) < 8589934592) = False := by simp; omega
        replace KA := Lib.hid KA
        replace KB := Lib.hid KB
        replace KC := Lib.hid KC
        clear hr hql hn hC hCl h0n hl
        go_enter Tryz.func7, Tryz.ntmps7
        go_wp2_with fail
        refine h0.mono ?_
        rintro e w1 ⟨rfl, hB1⟩
        have hE1 := hE.below hB1
        go_wp2_with fail
        refine (KA.out _ hE1).mono ?_
        rintro e w2 ⟨rfl, hB2⟩
        have hE2 := hE1.below hB2
        simp only [PutRes]
        go_wp2_with fail
        refine (KB.out _ hE2).mono ?_
        rintro e w3 ⟨rfl, hB3⟩
        have hE3 := hE2.below hB3
        simp only [PutRes]
        go_wp2_with fail
        refine (KC.out _ hE3).mono ?_
        rintro e w4 ⟨rfl, hB4⟩
        simp only [PutRes]
        go_wp2_with fail
        go_ret
        exact ⟨rfl, bthen (bthen (bthen hB1 hB2) hB3) hB4⟩
end Go.Proofs.YtkfaejnpgdbhlaaGreatDoor
