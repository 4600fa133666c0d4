/-
  The reference package's Get and Own, by contract: they answer as num's.
-/
import Derived.Test.YtdcgkkfpgpiejaaDoorRefPut
namespace Go.Proofs.YtdcgkkfpgpiejaaDoor
open Go.RowKit

theorem gstep_ref {b : Nat} (hb : b ≤ 16) (x : Nat) (c : UInt8) :
    gstep b x c = if refd c.toNat < b ∧ x ≤ (18446744073709551615 - refd c.toNat) / b then some (b * x + refd c.toNat) else none := by
  have hc := c.toNat_lt
  have h : (0 ≤ bdig c ∧ bdig c < b ↔ refd c.toNat < b) ∧ (refd c.toNat < b → (bdig c).toNat = refd c.toNat) := by
    unfold bdig codeDig lower refd
    (repeat' split) <;> omega
  unfold gstep
  by_cases hr : refd c.toNat < b
  · have h1 := h.1.2 hr
    rw [h.2 hr]
    by_cases hx : x ≤ (18446744073709551615 - refd c.toNat) / b
    · rw [if_pos ⟨h1.1, h1.2, hx⟩, if_pos ⟨hr, hx⟩]
    · rw [if_neg (fun k => hx k.2.2), if_neg (fun k => hx k.2)]
  · rw [if_neg (fun k => hr (h.1.1 ⟨k.1, k.2.1⟩)), if_neg (fun k => hr k.1)]

set_option maxRecDepth 100000 in
theorem ref_Get_none (b : Int) (h8 : b ≠ 8) (h10 : b ≠ 10) (h16 : b ≠ 16) (s : ByteArray) (w : World) :
    Calls Tryd.prog 22 #[.int .i64 b, .string s] w fun e w' => e = .returned (.tuple #[.int .u64 0, .int .i64 2]) ∧ w = w' := by
  have K := ref_is_no b h8 h10 h16 w
  go_enter Tryd.func22, Tryd.ntmps22
  go_wp2_with fail
  refine K.mono ?_
  rintro e w' ⟨rfl, rfl⟩
  go_wp2_with fail
  go_ret2
  exact ⟨rfl, rfl⟩

set_option maxRecDepth 100000 in
set_option maxHeartbeats 2000000 in
theorem ref_Get_base (b : Nat) (hb : b = 8 ∨ b = 10 ∨ b = 16) (s : ByteArray) (hs : s.size ≤ 140737488351232) (w : World) :
    Calls Tryd.prog 22 #[.int .i64 b, .string s] w fun e w' => e = .returned (GetRes (getN b s.data.toList)) ∧ w = w' := by
  have K := ref_is b hb w
  have hb2 : 2 ≤ b := by omega
  have hb16 : b ≤ 16 := by omega
  have hw8 : IntKind.u64.wrap (b : Int) = b := by rw [IntKind.wrap_u64]; omega
  have hb0 : (1 : Int) ≤ b := by omega
  have hb1 : ¬ (b : Int) = 0 := by omega
  clear hb
  go_enter Tryd.func22, Tryd.ntmps22
  go_wp2_with fail
  refine K.mono ?_
  rintro e w' ⟨rfl, rfl⟩
  clear K
  go_wp2_with fail
  go_loop [7, 8] (fun n i => ∃ k x : Nat, k ≤ s.size ∧ i = .int .i64 k ∧ n = .int .u64 x ∧ Hid (gfold b 0 (s.data.toList.take k) = some x)) (fun _ i => s.size - (intOf i).toNat)
  case atStart => exact ⟨0, 0, Nat.zero_le _, rfl, rfl, Lib.hid rfl⟩
  case round =>
    obtain ⟨k, x, hk, rfl, rfl, hx⟩ := hrel
    by_cases hlt : k < s.size
    · have hc1 : (k : Int) < s.size := by omega
      have hD := Lib.hid fun w => ref_digit s[k].toNat s[k].toNat_lt w
      have hg := gstep_ref hb16 x s[k]
      have hx64 : x < 18446744073709551616 := gfold_lt hb2 _ 0 x (by omega) hx.out
      obtain ⟨d, hd⟩ : ∃ d, d = refd s[k].toNat := ⟨_, rfl⟩
      rw [← hd] at hD hg
      have hd99 : d ≤ 99 := by rw [hd]; unfold refd; split <;> (try split) <;> (try split) <;> omega
      clear hd
      by_cases hdb : d < b
      · have hdb2 : ((b : Int) ≤ d) = False := by simp; omega
        obtain ⟨m, hm⟩ : ∃ m, m = 18446744073709551615 - d := ⟨_, rfl⟩
        have hw1 : IntKind.u64.wrap (18446744073709551615 - (d : Int)) = (m : Int) := by rw [hm]; exact sub_wrap d (by omega)
        obtain ⟨q, hq⟩ : ∃ q, q = m / b := ⟨_, rfl⟩
        have hw2 : IntKind.u64.wrap ((m : Int) / (b : Int)) = (q : Int) := by rw [hq]; exact quo_wrap m b (by omega)
        rw [← hm, ← hq] at hg
        by_cases hfit : x ≤ q
        · rw [if_pos ⟨hdb, hfit⟩] at hg
          have hle : b * x + d ≤ 18446744073709551615 := fit_le (by omega) (by omega) (by rw [← hm, ← hq]; exact hfit)
          obtain ⟨t, ht⟩ : ∃ t, t = b * x := ⟨_, rfl⟩
          rw [← ht] at hle
          have hw3 : IntKind.u64.wrap ((b : Int) * x) = (t : Int) := by
            rw [← Int.natCast_mul, ← ht, IntKind.wrap_u64]; omega
          have hw4 : IntKind.u64.wrap ((t : Int) + d) = ((t + d : Nat) : Int) := by rw [IntKind.wrap_u64]; omega
          rw [← ht] at hg
          have HG : Hid (gfold b 0 (s.data.toList.take (k + 1)) = some (t + d)) := Lib.hid (gfold_take_some hlt hx.out hg)
          have hfit2 : ((q : Int) < x) = False := by simp; omega
          obtain ⟨y, hy⟩ : ∃ y, y = t + d := ⟨_, rfl⟩
          rw [← hy] at hw4 HG
          clear hm hq hx64 hg hle ht hy hfit hdb
          go_wp2_with fail
          refine (hD.out _).mono ?_
          rintro e w' ⟨rfl, rfl⟩
          go_wp2_with fail
          go_round
          case rel => exact ⟨k + 1, y, by omega, by go_num, rfl, HG⟩
          case measure => simp [intOf]; omega
        · rw [if_neg (fun k => hfit k.2)] at hg
          have HG := Lib.hid (getN_none hlt hx.out hg)
          have hfit2 : ((q : Int) < x) = True := by simp; omega
          clear hm hq hx64 hg hfit hdb
          go_wp2_with fail
          refine (hD.out _).mono ?_
          rintro e w' ⟨rfl, rfl⟩
          go_wp2_with fail
          go_ret2
          exact ⟨by rw [HG.out]; rfl, rfl⟩
      · rw [if_neg (fun k => hdb k.1)] at hg
        have HG := Lib.hid (getN_none hlt hx.out hg)
        have hdb2 : ((b : Int) ≤ d) = True := by simp; omega
        clear hx64 hg hdb
        go_wp2_with fail
        refine (hD.out _).mono ?_
        rintro e w' ⟨rfl, rfl⟩
        go_wp2_with fail
        go_ret2
        exact ⟨by rw [HG.out]; rfl, rfl⟩
    · have hc1 : ((k : Int) < s.size) = False := by simp; omega
      by_cases h0 : s.size = 0
      · have HN := Lib.hid (getN_empty (b := b) h0)
        have hem : s.toList = [] := by rw [toList_data]; exact List.length_eq_zero_iff.1 (by simpa using h0)
        clear h0 hlt
        go_wp2_with fail
        go_ret2
        exact ⟨by rw [HN.out]; rfl, rfl⟩
      · have HN := Lib.hid (getN_some (by omega) hlt hx.out)
        have hem : ¬ s.toList = [] := by rw [toList_data]; intro e; exact h0 (by have := congrArg List.length e; simpa using this)
        have hem2 : s.toList.isEmpty = false := by simpa using hem
        clear h0 hlt
        go_wp2_with fail
        go_ret2
        exact ⟨by rw [HN.out]; rfl, rfl⟩

set_option maxRecDepth 100000 in
theorem ref_Own_none (b : Int) (h8 : b ≠ 8) (h10 : b ≠ 10) (h16 : b ≠ 16) (s : ByteArray) (w : World) :
    Calls Tryd.prog 24 #[.int .i64 b, .string s] w fun e w' => e = .returned (.tuple #[.int .u64 0, .int .i64 2]) ∧ w = w' := by
  have K := ref_Get_none b h8 h10 h16 s w
  go_enter Tryd.func24, Tryd.ntmps24
  go_wp2_with fail
  refine K.mono ?_
  rintro e w' ⟨rfl, rfl⟩
  go_wp2_with fail
  go_ret2
  exact ⟨rfl, rfl⟩

set_option maxRecDepth 100000 in
theorem ref_Own_base (b : Nat) (hb : b = 8 ∨ b = 10 ∨ b = 16) (s : ByteArray) (hs : s.size ≤ 140737488351232) (w : World) :
    Calls Tryd.prog 24 #[.int .i64 b, .string s] w fun e w' => e = .returned (GetRes (ownN b s.data.toList)) ∧ Below w.heap.size w w' := by
  have hg := ref_Get_base b hb s hs w
  unfold ownN
  cases h : getN b s.data.toList with
  | none =>
    rw [h] at hg
    clear h hb
    go_enter Tryd.func24, Tryd.ntmps24
    go_wp2_with fail
    refine hg.mono ?_
    rintro e w1 ⟨rfl, rfl⟩
    simp only [GetRes]
    go_wp2_with fail
    go_ret2
    exact ⟨rfl, Below.refl _ _⟩
  | some x =>
    rw [h] at hg
    have hx := getN_lt (by omega) h
    have hp := fun w1 => ref_Put_base b hb x hx w1
    have HP := Lib.hid hp
    clear h hb hp
    simp only []
    generalize putL b x = l at *
    by_cases he : l = s.data.toList
    · rw [if_pos he]
      have hse := str_eq he
      have hne : (!(l == s.toList)) = false := by rw [hse]; rfl
      clear he hse
      go_enter Tryd.func24, Tryd.ntmps24
      go_wp2_with fail
      refine hg.mono ?_
      rintro e w1 ⟨rfl, rfl⟩
      simp only [GetRes]
      go_wp2_with fail
      refine (HP.out _).mono ?_
      rintro e w2 ⟨rfl, hB2⟩
      go_wp2_with fail
      go_ret2
      exact ⟨rfl, hB2⟩
    · rw [if_neg he]
      have hse := str_ne he
      have hne : (!(l == s.toList)) = true := by rw [hse]; rfl
      clear he hse
      go_enter Tryd.func24, Tryd.ntmps24
      go_wp2_with fail
      refine hg.mono ?_
      rintro e w1 ⟨rfl, rfl⟩
      simp only [GetRes]
      go_wp2_with fail
      refine (HP.out _).mono ?_
      rintro e w2 ⟨rfl, hB2⟩
      go_wp2_with fail
      go_ret2
      exact ⟨rfl, hB2⟩
end Go.Proofs.YtdcgkkfpgpiejaaDoor
