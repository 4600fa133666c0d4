/-
  Package utf's head and Decode, by contract.
-/
import Derived.Test.YtkfaejnpgdbhlaaGreatDoorUtfEnc
import Derived.Test.YtkfaejnpgdbhlaaGreatDoorNumSum
import Derived.Test.YtkfaejnpgdbhlaaGreatDoorNumGet
import Derived.Laws.Bits64b
import Derived.IntWalk
namespace Go.Proofs.YtkfaejnpgdbhlaaGreatDoor
open Go.RowKit

theorem or_i64 (a x : Nat) (ha : a < 1099511627776) (hx : x < 64) : bits .or .i64 (((a : Int)) * 64) (x : Int) = ((64 * a + x : Nat) : Int) := by
  have e : 64 * a ||| x = 64 * a + x := by
    have := Nat.shiftLeft_add_eq_or_of_lt (i := 6) (b := x) (by omega) a
    rw [Nat.shiftLeft_eq] at this
    rw [show 64 * a = a * 2 ^ 6 by omega, ← this]
  have h0 : ((a : Int)) * 64 = ((64 * a : Nat) : Int) := by omega
  have h1 : (BitVec.ofInt 64 ((64 * a : Nat) : Int)).toNat = 64 * a := by
    rw [BitVec.ofInt_natCast, BitVec.toNat_ofNat]; exact Nat.mod_eq_of_lt (by omega)
  have h2 : (BitVec.ofInt 64 (x : Int)).toNat = x := by
    rw [BitVec.ofInt_natCast, BitVec.toNat_ofNat]; exact Nat.mod_eq_of_lt (by omega)
  rw [h0]
  show IntKind.i64.wrap ((BitVec.ofInt 64 ((64 * a : Nat) : Int) ||| BitVec.ofInt 64 (x : Int)).toNat : Int) = _
  rw [BitVec.toNat_or, h1, h2, e]
  exact IntWalk.i64_in _ (by omega)

theorem tail_bits : ∀ c : Fin 256, (bits .andNot .u8 (c.val : Int) 63 = 128 ↔ 128 ≤ c.val ∧ c.val < 192) ∧ (128 ≤ c.val ∧ c.val < 192 → bits .and .u8 (c.val : Int) 63 = ((c.val - 128 : Nat) : Int)) := by decide +kernel

/-- What a first byte says. -/
def uhead (c : Nat) : Option (Nat × Nat) :=
  if 248 ≤ c then none else if 240 ≤ c then some (3, c - 240) else if 224 ≤ c then some (2, c - 224) else if 192 ≤ c then some (1, c - 192) else if 128 ≤ c then none else some (0, c)
/-- What further bytes say behind r. -/
def uconts : List UInt8 → Nat → Option Nat
  | [], r => some r
  | c :: l, r => if 128 ≤ c.toNat ∧ c.toNat < 192 then uconts l (64 * r + (c.toNat - 128)) else none
/-- The rune of bytes, and how many they are. -/
def udec : List UInt8 → Option (Nat × Nat)
  | [] => none
  | c :: t => match uhead c.toNat with
    | none => none
    | some (k, d) => if t.length < k then none else match uconts (t.take k) d with
      | none => none
      | some r => if isScal r = true ∧ ulen r = k + 1 then some (r, k + 1) else none

theorem uconts_append (l r : List UInt8) : ∀ x, uconts (l ++ r) x = match uconts l x with | some y => uconts r y | none => none := by
  induction l with
  | nil => intro x; rfl
  | cons c l ih =>
    intro x
    simp only [List.cons_append, uconts]
    split
    · exact ih _
    · rfl

def headRes : Option (Nat × Nat) → Value
  | some (k, d) => .tuple #[.int .i64 k, .int .i64 d]
  | none => .tuple #[.int .i64 (-1), .int .i64 0]

set_option maxRecDepth 100000 in
theorem head_any (c : Nat) (hc : c < 256) (w : World) :
    Calls Tryz.prog 183 #[.int .u8 c] w fun e w' => e = .returned (headRes (uhead c)) ∧ w = w' := by
  rcases (show (248 ≤ c) ∨ (240 ≤ c ∧ c < 248) ∨ (224 ≤ c ∧ c < 240) ∨ (192 ≤ c ∧ c < 224) ∨ (128 ≤ c ∧ c < 192) ∨ (c < 128) by omega) with h | h | h | h | h | h
  · have e : uhead c = none := by unfold uhead; (repeat' split) <;> first | rfl | omega
    rw [e]
    have t0 : ((248 : Int) ≤ c) = True := by simp; omega
    have t1 : ((240 : Int) ≤ c) = True := by simp; omega
    have t2 : ((224 : Int) ≤ c) = True := by simp; omega
    have t3 : ((192 : Int) ≤ c) = True := by simp; omega
    have t4 : ((128 : Int) ≤ c) = True := by simp; omega
    have t5 : ((c : Int) < 128) = False := by simp; omega
    clear e
    go_enter Tryz.func183, Tryz.ntmps183
    go_wp2
    go_ret2
    exact ⟨rfl, rfl⟩
  · have e : uhead c = some (3, c - 240) := by unfold uhead; (repeat' split) <;> first | rfl | omega
    have e2 : ((c - 240 : Nat) : Int) = (c : Int) - 240 := by omega
    rw [e]; simp only [headRes]; rw [e2]
    have t0 : ((248 : Int) ≤ c) = False := by simp; omega
    have t1 : ((240 : Int) ≤ c) = True := by simp; omega
    have t2 : ((224 : Int) ≤ c) = True := by simp; omega
    have t3 : ((192 : Int) ≤ c) = True := by simp; omega
    have t4 : ((128 : Int) ≤ c) = True := by simp; omega
    have t5 : ((c : Int) < 128) = False := by simp; omega
    clear e
    go_enter Tryz.func183, Tryz.ntmps183
    go_wp2
    go_ret2
    exact ⟨rfl, rfl⟩
  · have e : uhead c = some (2, c - 224) := by unfold uhead; (repeat' split) <;> first | rfl | omega
    have e2 : ((c - 224 : Nat) : Int) = (c : Int) - 224 := by omega
    rw [e]; simp only [headRes]; rw [e2]
    have t0 : ((248 : Int) ≤ c) = False := by simp; omega
    have t1 : ((240 : Int) ≤ c) = False := by simp; omega
    have t2 : ((224 : Int) ≤ c) = True := by simp; omega
    have t3 : ((192 : Int) ≤ c) = True := by simp; omega
    have t4 : ((128 : Int) ≤ c) = True := by simp; omega
    have t5 : ((c : Int) < 128) = False := by simp; omega
    clear e
    go_enter Tryz.func183, Tryz.ntmps183
    go_wp2
    go_ret2
    exact ⟨rfl, rfl⟩
  · have e : uhead c = some (1, c - 192) := by unfold uhead; (repeat' split) <;> first | rfl | omega
    have e2 : ((c - 192 : Nat) : Int) = (c : Int) - 192 := by omega
    rw [e]; simp only [headRes]; rw [e2]
    have t0 : ((248 : Int) ≤ c) = False := by simp; omega
    have t1 : ((240 : Int) ≤ c) = False := by simp; omega
    have t2 : ((224 : Int) ≤ c) = False := by simp; omega
    have t3 : ((192 : Int) ≤ c) = True := by simp; omega
    have t4 : ((128 : Int) ≤ c) = True := by simp; omega
    have t5 : ((c : Int) < 128) = False := by simp; omega
    clear e
    go_enter Tryz.func183, Tryz.ntmps183
    go_wp2
    go_ret2
    exact ⟨rfl, rfl⟩
  · have e : uhead c = none := by unfold uhead; (repeat' split) <;> first | rfl | omega
    rw [e]
    have t0 : ((248 : Int) ≤ c) = False := by simp; omega
    have t1 : ((240 : Int) ≤ c) = False := by simp; omega
    have t2 : ((224 : Int) ≤ c) = False := by simp; omega
    have t3 : ((192 : Int) ≤ c) = False := by simp; omega
    have t4 : ((128 : Int) ≤ c) = True := by simp; omega
    have t5 : ((c : Int) < 128) = False := by simp; omega
    clear e
    go_enter Tryz.func183, Tryz.ntmps183
    go_wp2
    go_ret2
    exact ⟨rfl, rfl⟩
  · have e : uhead c = some (0, c) := by unfold uhead; (repeat' split) <;> first | rfl | omega
    rw [e]; simp only [headRes]
    have t0 : ((248 : Int) ≤ c) = False := by simp; omega
    have t1 : ((240 : Int) ≤ c) = False := by simp; omega
    have t2 : ((224 : Int) ≤ c) = False := by simp; omega
    have t3 : ((192 : Int) ≤ c) = False := by simp; omega
    have t4 : ((128 : Int) ≤ c) = False := by simp; omega
    have t5 : ((c : Int) < 128) = True := by simp; omega
    clear e
    go_enter Tryz.func183, Tryz.ntmps183
    go_wp2
    go_ret2
    exact ⟨rfl, rfl⟩

theorem sub_list (s : ByteArray) (a b : Nat) : (s.extract a b).data.toList = (s.data.toList.take b).drop a := by
  simp only [ByteArray.data_extract, Array.toList_extract, List.extract]
  rw [List.take_drop]
  by_cases h : a ≤ b
  · rw [show a + (b - a) = b by omega]
  · rw [List.drop_of_length_le (by simp; omega), List.drop_of_length_le (by simp; omega)]

/-- What Decode hands back. -/
def decRes (e : Int) : Option (Nat × Nat) → Value
  | some (r, n) => .tuple #[.int .i64 r, .int .i64 n, .int .i64 0]
  | none => .tuple #[.int .i64 0, .int .i64 0, .int .i64 e]

/-- Decode's ending. -/
def DecOut (o : Option (Nat × Nat)) (e : Ending) : Prop := ∃ c : Int, c ≠ 0 ∧ e = .returned (decRes c o)
theorem DecOut.of {o : Option (Nat × Nat)} {e : Ending} (c : Int) (hc : c ≠ 0) (h : e = .returned (decRes c o)) : DecOut o e := ⟨c, hc, h⟩

set_option maxRecDepth 100000 in
set_option maxHeartbeats 1000000 in
theorem Decode_any (s : ByteArray) (hs : s.size ≤ 140737488351232) (w : World) :
    Calls Tryz.prog 174 #[.string s] w fun e w' => DecOut (udec s.data.toList) e ∧ Below w.heap.size w w' := by
  by_cases h0 : s.size = 0
  · have hl : s.data.toList = [] := List.length_eq_zero_iff.1 (by simpa using h0)
    have hem : s.toList = [] := by rw [toList_data]; exact hl
    rw [hl]
    clear h0 hl
    go_enter Tryz.func174, Tryz.ntmps174
    go_wp2_with fail
    go_ret3
    exact ⟨.of 10 (by omega) rfl, Below.refl _ _⟩
  have hl : s.data.toList = s[0] :: s.data.toList.drop 1 := by
    have h1 : 0 < s.data.toList.length := by rw [Array.length_toList]; exact Nat.pos_of_ne_zero h0
    have := List.getElem_cons_drop h1
    rw [List.drop_zero] at this
    exact this.symm
  have hne : ¬ s.toList = [] := by rw [toList_data, hl]; simp
  have hem2 : s.toList.isEmpty = false := by simpa using hne
  have H := Lib.hid (head_any s[0].toNat s[0].toNat_lt)
  have hc1 : (0 : Int) < s.size := by omega
  have hu : ∀ o, uhead s[0].toNat = o → udec s.data.toList = match o with
    | none => none
    | some (k, d) => if (s.data.toList.drop 1).length < k then none else match uconts ((s.data.toList.drop 1).take k) d with
      | none => none
      | some r => if isScal r = true ∧ ulen r = k + 1 then some (r, k + 1) else none := fun o ho => by
    subst ho
    conv => lhs; rw [hl]
    rfl
  cases hh : uhead s[0].toNat with
  | none =>
    rw [hu _ hh]
    rw [hh] at H
    clear hu hh hl
    go_enter Tryz.func174, Tryz.ntmps174
    go_wp2_with fail
    refine (H.out _).mono ?_
    rintro e w' ⟨rfl, rfl⟩
    simp only [headRes]
    go_wp2_with fail
    go_ret3
    exact ⟨.of 20 (by omega) rfl, Below.refl _ _⟩
  | some p =>
    obtain ⟨k, d⟩ := p
    rw [hu _ hh]
    rw [hh] at H
    have hk3 : k ≤ 3 ∧ d < 128 := by
      have := s[0].toNat_lt
      unfold uhead at hh
      (repeat' split at hh) <;> first | (cases hh; done) | (cases hh; omega)
    have hdl : (s.data.toList.drop 1).length = s.size - 1 := by rw [List.length_drop, Array.length_toList]; rfl
    dsimp only
    rw [hdl]
    by_cases hlen : s.size - 1 < k
    · rw [if_pos hlen]
      have t1 : ((k : Int) < 0) = False := by simp
      have t2 : ((s.size : Int) ≤ k) = True := by simp; omega
      clear hu hh hl hlen hdl hk3
      go_enter Tryz.func174, Tryz.ntmps174
      go_wp2_with fail
      refine (H.out _).mono ?_
      rintro e w' ⟨rfl, rfl⟩
      simp only [headRes]
      go_wp2_with fail
      go_ret3
      exact ⟨.of 20 (by omega) rfl, Below.refl _ _⟩
    rw [if_neg hlen]
    have hsubl : (s.data.toList.drop 1).take k = (s.extract 1 (k + 1)).data.toList := by
      rw [sub_list, List.take_drop, Nat.add_comm 1 k]
    rw [hsubl]
    obtain ⟨sub, hsub⟩ : ∃ sub, s.extract 1 (k + 1) = sub := ⟨_, rfl⟩
    have hsubn : sub.size = k := by rw [← hsub, ByteArray.size_extract]; omega
    rw [hsub]
    obtain ⟨R, hR⟩ : ∃ R, R = (match uconts sub.data.toList d with
      | none => none
      | some r => if isScal r = true ∧ ulen r = k + 1 then some (r, k + 1) else none) := ⟨_, rfl⟩
    rw [← hR]
    replace hR := Lib.hid hR
    obtain ⟨cap, row, m, hrun, hcell⟩ := bytes_conv sub w
    have t1 : ((k : Int) < 0) = False := by simp
    have t2 : ((s.size : Int) ≤ k) = False := by simp; omega
    have b1 : (k : Int) + 1 ≤ s.size := by omega
    have b2 : (1 : Int) ≤ (k : Int) + 1 := by omega
    have b3 : ((k : Int) + 1).toNat = k + 1 := by omega
    clear hu hh hl hdl hsubl
    go_enter Tryz.func174, Tryz.ntmps174
    go_wp2_with fail
    refine (H.out _).mono ?_
    rintro e w' ⟨rfl, rfl⟩
    simp only [headRes]
    clear H
    go_wp2_with fail
    clear hrun t1 t2 b1 b2 b3 hne hem2 hc1 hsub hlen
    go_loop [6, 33] (fun r i => ∃ j x : Nat, j ≤ k ∧ i = .int .i64 j ∧ r = .int .i64 x ∧ x < 128 * 64 ^ j ∧ Hid (uconts (sub.data.toList.take j) d = some x)) (fun _ i => k - (intOf i).toNat)
    case atStart => exact ⟨0, d, Nat.zero_le _, rfl, rfl, by omega, Lib.hid rfl⟩
    case round =>
      obtain ⟨j, x, hj, rfl, rfl, hx, hu⟩ := hrel
      have hP : 64 ^ j ≤ 64 ^ 3 := Nat.pow_le_pow_right (by omega) (by omega)
      rw [show (64 : Nat) ^ 3 = 262144 by decide] at hP
      by_cases hlt : j < k
      · have hjs : j < sub.size := by omega
        have hc := hcell j hjs
        have htb := tail_bits ⟨sub[j].toNat, sub[j].toNat_lt⟩
        dsimp only at htb
        have htk := take_snoc sub j hjs
        have htk2 : sub.data.toList = sub.data.toList.take (j + 1) ++ sub.data.toList.drop (j + 1) := (List.take_append_drop _ _).symm
        have hlt2 : ((j : Int) < k) = True := by simp; omega
        clear hcell
        by_cases hct : 128 ≤ sub[j].toNat ∧ sub[j].toNat < 192
        · have hb1 := htb.1.2 hct
          have hb2 := htb.2 hct
          have hor := or_i64 x (sub[j].toNat - 128) (by omega) (by omega)
          have hu2 : Hid (uconts (sub.data.toList.take (j + 1)) d = some (64 * x + (sub[j].toNat - 128))) := by
            refine Lib.hid ?_
            rw [htk, uconts_append, hu.out]
            simp only [uconts, if_pos hct]
          have hx2 : Hid (64 * x + (sub[j].toNat - 128) < 128 * 64 ^ (j + 1)) := Lib.hid (by rw [Nat.pow_succ]; omega)
          clear htb htk htk2
          go_wp2_with fail
          go_round
          case rel => exact ⟨j + 1, 64 * x + (sub[j].toNat - 128), by omega, by go_num, by go_num, hx2.out, hu2⟩
          case measure => simp [intOf]; omega
        · have hb1 : (bits .andNot .u8 (sub[j].toNat : Int) 63 != 128) = true := by rw [bne_iff_ne]; exact fun h => hct (htb.1.1 h)
          have hn : Hid (uconts sub.data.toList d = none) := by
            refine Lib.hid ?_
            rw [htk2, uconts_append, htk, uconts_append, hu.out]
            simp only [uconts, if_neg hct]
          clear htb htk htk2
          go_wp2_with fail
          go_ret3
          exact ⟨.of 20 (by omega) (by rw [hR.out, hn.out]; rfl), ((Below.refl _ _).alloc (Nat.le_refl _) _).drew⟩
      · have hlt2 : ((j : Int) < k) = False := by simp; omega
        have hfull : sub.data.toList.take j = sub.data.toList := List.take_of_length_le (by simp; omega)
        have hu2 := hu.out
        rw [hfull] at hu2
        replace hu2 := Lib.hid hu2
        have B0 : Hid (∀ w1 : World, Below (w.alloc (.cells row 5 m)).drew.heap.size (w.alloc (.cells row 5 m)).drew w1 → Below w.heap.size w w1) := Lib.hid fun w1 hB => by
          have h1 := ((Below.refl w.heap.size w).alloc (Nat.le_refl _) (.cells row 5 m)).drew
          exact h1.trans (hB.mono h1.size)
        clear hcell hfull hj hlt
        cases hsc : isScal (x : Int) with
        | false =>
          have hE := Lib.hid fun w => Encode_bad (x : Int) hsc w
          replace hsc := Lib.hid hsc
          go_wp2_with fail
          refine (hE.out _).mono ?_
          rintro e w1 ⟨rfl, hB1⟩
          go_wp2_with fail
          go_ret3
          exact ⟨.of 20 (by omega) (by rw [hR.out, hu2.out]; dsimp only; rw [if_neg (by rw [hsc.out]; simp)]; rfl), B0.out _ hB1⟩
        | true =>
          have hE := Lib.hid fun w => Encode_len x hsc w
          replace hsc := Lib.hid hsc
          go_wp2_with fail
          refine (hE.out _).mono ?_
          rintro e w1 ⟨⟨s1, rfl, hs1⟩, hB1⟩
          by_cases hul : ulen x = k + 1
          · have h7 : ((s1.size : Int) != (k : Int) + 1) = false := by simp; omega
            replace hul := Lib.hid hul
            clear hs1
            go_wp2_with fail
            go_ret3
            exact ⟨.of 20 (by omega) (by rw [hR.out, hu2.out]; dsimp only; rw [if_pos ⟨hsc.out, hul.out⟩]; rfl), B0.out _ hB1⟩
          · have h7 : ((s1.size : Int) != (k : Int) + 1) = true := by simp; omega
            replace hul := Lib.hid hul
            clear hs1
            go_wp2_with fail
            go_ret3
            exact ⟨.of 20 (by omega) (by rw [hR.out, hu2.out]; dsimp only; rw [if_neg (fun h => hul.out h.2)]; rfl), B0.out _ hB1⟩
end Go.Proofs.YtkfaejnpgdbhlaaGreatDoor
