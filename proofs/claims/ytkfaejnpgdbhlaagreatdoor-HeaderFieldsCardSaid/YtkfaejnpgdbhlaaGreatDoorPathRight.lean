/-
  path's Right and Split by contract.
-/
import Derived.Test.YtkfaejnpgdbhlaaGreatDoorPathChk
import Derived.Deep.QuietTactic
import Derived.BigQuiet
import Derived.ScopeJumps
namespace Go.Proofs.YtkfaejnpgdbhlaaGreatDoor
open Go.RowKit Go.Shelf

/-- path's error variable. -/
def PathErr (w : World) (ea : Addr) : Prop := w.cell? ⟨3, 0, none⟩ = some (.iface 252 (.pointer (some ea)))
theorem PathErr.below {w w' : World} {ea : Addr} (h : PathErr w ea) (hb : Below w.heap.size w w') : PathErr w' ea := (hb.cell (World.block_lt_of_cell? _ _ h)).trans h

theorem of_path (s : ByteArray) (w : World) :
    Calls Tryz.prog 85 #[.string s] w fun e w' => e = .returned (.pointer (some ⟨w.heap.size, 0, none⟩)) ∧ w.alloc (PathCells s 0 0 (.slice none 0 0)) = w' := by
  go_enter Tryz.func85, Tryz.ntmps85
  go_wp2
  go_ret
  exact ⟨rfl, rfl⟩

set_option maxRecDepth 100000 in
theorem Right_any (s : ByteArray) (hs : s.size ≤ 1048576) (w : World) {ea : Addr} (hE : PathErr w ea) :
    Calls Tryz.prog 55 #[.string s] w fun e w' => e = .returned (.bool (rightL s.data.toList)) ∧ Below w.heap.size w w' := by
  have kg : 3 < w.heap.size := World.block_lt_of_cell? _ _ hE
  have K := Lib.hid (of_path s w)
  go_enter Tryz.func55, Tryz.ntmps55
  go_wp2_with fail
  refine K.out.mono ?_
  rintro e w1 ⟨rfl, hw⟩
  have hp : w1.heap[w.heap.size]? = some (PathCells s 0 0 (.slice none 0 0)) := by rw [← hw]; exact World.alloc_heap_new w _
  have hB1 : Below w.heap.size w w1 := by rw [← hw]; exact (Below.refl _ w).alloc (Nat.le_refl _) _
  have hE1 := hE.below hB1
  have K2 := Lib.hid (checked_any s hs w.heap.size ea w1 hp hE1 (by omega))
  have hz := hB1.size
  clear hw K
  go_wp2_with fail
  refine K2.out.mono ?_
  rintro e w2 ⟨rfl, hG⟩
  have hB2 := below_grown hB1 hG (Nat.le_refl _) hz
  clear K2 hp
  cases hr : rightL s.data.toList
  · simp only [Bool.false_eq_true, if_false]
    go_wp2_with fail
    go_ret
    exact ⟨by rw [hr]; rfl, hB2⟩
  · simp only [if_true]
    go_wp2_with fail
    go_ret
    exact ⟨by rw [hr]; rfl, hB2⟩

/-- What Split answers. -/
def SplitRes : Option (List UInt8 × List UInt8) → Value
  | some (p, n) => .tuple #[.string ⟨p.toArray⟩, .string ⟨n.toArray⟩, .int .i64 0]
  | none => .tuple #[.string ⟨#[]⟩, .string ⟨#[]⟩, .int .i64 70]

theorem drop_eq (s : ByteArray) (n : Nat) : (⟨(s.data.toList.drop n).toArray⟩ : ByteArray) = s.extract n s.size := by
  apply ByteArray.ext
  apply Array.toList_inj.1
  exact (drop_bytes s n).symm
theorem bytes_eta (s : ByteArray) : (⟨s.data.toList.toArray⟩ : ByteArray) = s := by cases s; simp

set_option maxRecDepth 100000 in
theorem Split_any (s : ByteArray) (hs : s.size ≤ 1048576) (w : World) {ea : Addr} (hE : PathErr w ea) :
    Calls Tryz.prog 32 #[.string s] w fun e w' => e = .returned (SplitRes (splitL s.data.toList)) ∧ Below w.heap.size w w' := by
  have K := Lib.hid (Right_any s hs w hE)
  obtain ⟨R, hR⟩ : ∃ R, SplitRes (splitL s.data.toList) = R := ⟨_, rfl⟩
  rw [hR]
  replace hR := Lib.hid hR
  have hsz : s.data.toList.length = s.size := by simp
  cases hr : rightL s.data.toList
  · rw [hr] at K
    have E : Hid (R = SplitRes none) := Lib.hid (by rw [← hR.out]; simp [splitL, hr])
    go_enter Tryz.func32, Tryz.ntmps32
    go_wp2_with fail
    refine wp_scope_jumps 0 (fun a' w' => Below w.heap.size w w' ∧ a' = { tmps := #[.string s, undef, .string ⟨#[]⟩, .string ⟨#[]⟩, .int .i64 0, .int .i64 0, .string s, .bool false, .bool true, undef, undef, undef, undef, undef, undef, undef, undef, undef, undef, undef, undef, undef, undef, undef, undef, undef, undef, undef, undef, undef, undef, undef, undef, undef, undef, undef, undef, undef, undef, undef], defers := [] }) (fun _ _ => 0) rfl ?_ ?_
    · go_wp2_with fail
      refine K.out.mono ?_
      rintro e w1 ⟨rfl, hB⟩
      clear K
      go_wp2_with fail
      go_step3
      exact ⟨rfl, hB, rfl⟩
    · rintro a' w' ⟨hB, rfl⟩
      clear K
      go_wp2_with fail
      simp only [Exit.jump]
      go_ret3
      exact ⟨by rw [E.out]; rfl, hB⟩
  · rw [hr] at K
    by_cases hl : s.size ≤ 100
    · have E : Hid (R = SplitRes (some ([], s.data.toList))) := Lib.hid (by rw [← hR.out]; simp [splitL, hr, hl])
      have hl1 : (s.size : Int) ≤ 100 := by omega
      go_enter Tryz.func32, Tryz.ntmps32
      go_wp2_with fail
      go_step3
      go_wp2_with fail
      refine K.out.mono ?_
      rintro e w1 ⟨rfl, hB⟩
      clear K
      go_wp2_with fail
      rw [Exit.noGoto_ret]
      go_ret3
      exact ⟨by rw [E.out]; simp only [SplitRes, bytes_eta]; rfl, hB⟩
    · have hc1 : s.size - 101 ≤ cutAt s.data.toList := by unfold cutAt; rw [hsz]; omega
      obtain ⟨k, hk⟩ : ∃ k, cutAt s.data.toList = k := ⟨_, rfl⟩
      obtain ⟨t, ht⟩ : ∃ t, t = s.extract (s.size - 101) s.size := ⟨_, rfl⟩
      have hts : t.size = 101 := by rw [ht, ByteArray.size_extract]; omega
      have htl : t.data.toList = s.data.toList.drop (s.size - 101) := by rw [ht]; exact drop_bytes s _
      have hap : (t ++ ⟨#[47]⟩ : ByteArray).data.toList = s.data.toList.drop (s.size - 101) ++ [47] := by
        rw [← htl]; simp
      have KI := fun w => Tryz.strings_IndexByte (t ++ ⟨#[47]⟩) 47 w
      rw [hap] at KI
      have hix : Lib.indexByte (s.data.toList.drop (s.size - 101) ++ [47]) 47 = ((k - (s.size - 101) : Nat) : Int) := by
        have h0 : 0 ≤ Lib.indexByte (s.data.toList.drop (s.size - 101) ++ [47]) 47 := (indexByte_mem 47 _).2 (by simp)
        rw [← hk, cutAt, hsz]; omega
      rw [show ((47 : Int).toNat.toUInt8) = 47 from rfl, hix] at KI
      have KI := Lib.hid KI
      have hkb : (k : Int) ≤ s.size := by
        have := (cutsL_some _ _ hix).2
        simp at this; omega
      have hl1 : ¬ (s.size : Int) ≤ 100 := by omega
      have hl2 : (s.size : Int) - 100 - 1 = ((s.size - 101 : Nat) : Int) := by omega
      clear hix hap
      go_enter Tryz.func32, Tryz.ntmps32
      go_wp2_with fail
      go_step3
      go_wp2_with fail
      refine K.out.mono ?_
      rintro e w1 ⟨rfl, hB⟩
      clear K
      go_wp2_with fail
      rw [← ht]
      refine (KI.out _).mono ?_
      rintro e w' ⟨rfl, hw⟩
      replace hw := hw.symm
      subst hw
      have hsum : ((s.size - 101 : Nat) : Int) + ((k - (s.size - 101) : Nat) : Int) = k := by omega
      clear KI
      by_cases hk1 : k ≤ 155 ∧ k < s.size
      · have E : Hid (R = SplitRes (some (s.data.toList.take k, s.data.toList.drop (k + 1)))) := Lib.hid (by
          rw [← hR.out]
          unfold splitL
          rw [if_pos hr, if_neg (by omega), if_pos (by rw [hk, hsz]; exact hk1), hk])
        have b1 : (k : Int) ≤ 155 := by omega
        have b2 : (k : Int) < s.size := by omega
        have b3 : (0 : Int) ≤ k := by omega
        have b4 : (k : Int) ≤ s.size := by omega
        have b5 : (k : Int) + 1 ≤ s.size := by omega
        have b6 : ((k : Int) + 1).toNat = k + 1 := by omega
        clear hc1 hk1
        go_wp2_with fail
        go_quiet (fail)
        go_wp2_with fail
        rw [Exit.noGoto_ret]
        go_ret3
        exact ⟨by rw [E.out]; simp only [SplitRes, ← take_bytes, drop_eq]; rfl, below_drewN hB _⟩
      · have E : Hid (R = SplitRes none) := Lib.hid (by
          rw [← hR.out]
          unfold splitL
          rw [if_pos hr, if_neg (by omega), if_neg (by rw [hk, hsz]; exact hk1)])
        by_cases hk2 : k ≤ 155
        · have b1 : (k : Int) ≤ 155 := by omega
          have b2 : ¬ (k : Int) < s.size := by omega
          clear hc1 hk1
          go_wp2_with fail
          go_step3
          go_wp2_with fail
          rw [Exit.noGoto_ret]
          go_ret3
          exact ⟨by rw [E.out]; rfl, hB⟩
        · have b1 : ((k : Int) ≤ 155) = False := by simp; omega
          clear hc1 hk1
          go_wp2_with fail
          go_step3
          go_wp2_with fail
          rw [Exit.noGoto_ret]
          go_ret3
          exact ⟨by rw [E.out]; rfl, hB⟩
end Go.Proofs.YtkfaejnpgdbhlaaGreatDoor
