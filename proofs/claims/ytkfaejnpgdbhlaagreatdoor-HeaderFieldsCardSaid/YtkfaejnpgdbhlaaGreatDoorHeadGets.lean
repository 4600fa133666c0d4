/-
  header.get where the sum is right, by contract.
-/
import Derived.Test.YtkfaejnpgdbhlaaGreatDoorHeadParse
import Derived.Test.YtkfaejnpgdbhlaaGreatDoorHeadGetW
import Derived.Deep.RegionHeld3
namespace Go.Proofs.YtkfaejnpgdbhlaaGreatDoor
open Go.RowKit

theorem trimRight_le (l : List UInt8) (c : UInt8) : (Lib.trimRightB l c).length ≤ l.length := by
  unfold Lib.trimRightB
  have := (List.dropWhile_sublist (p := (· == c)) (l := l.reverse)).length_le
  simpa using this
theorem trimSuffix_le (s p : List UInt8) : (Lib.trimSuffix s p).length ≤ s.length := by
  unfold Lib.trimSuffix
  split
  · simp
  · exact Nat.le_refl _

theorem pathOf_le (b : List UInt8) : (pathOf b).length ≤ 256 := by
  have h1 : (plainL (fieldOf b 0 100)).length ≤ 100 := Nat.le_trans (trimRight_le _ _) (by unfold fieldOf; simp; omega)
  have h2 : (plainL (fieldOf b 345 155)).length ≤ 155 := Nat.le_trans (trimRight_le _ _) (by unfold fieldOf; simp; omega)
  have h3 := trimSuffix_le (plainL (fieldOf b 0 100)) [47]
  unfold pathOf
  simp only
  split <;> split <;> simp <;> omega

/-- What get hands back where the sum is right: k is the place of what is wrong. -/
def FineRes (l : List UInt8) (k : Int) : Value :=
  if putHL (pathOf l) (l.getD 156 0) (sizeOfB l) = some l then .tuple #[headV ⟨(pathOf l).toArray⟩ (l.getD 156 0).toNat (sizeOfB l), .nilIface]
  else .tuple #[headV ⟨#[]⟩ 0 0, .iface 91 (.agg #[.int .i64 81, .int .i64 k])]

theorem getRes_any (o : Option Nat) : ∃ v, GetRes o = .tuple #[.int .u64 (o.getD 0 : Nat), v] := by
  cases o <;> exact ⟨_, rfl⟩

set_option hygiene false in
local macro "get_miss" : tactic => `(tactic| (
  clear c0 c1 c2 f0 f1 f2 x0 x1 x2
  go_wp2_with fail
  refine (hbad w8 hE8 hN8).mono ?_
  rintro e w9 ⟨rfl, hBb⟩
  have hb9' := (hBb.block _ (lt_block hb8)).trans hb8
  have hB9' : Below w.heap.size w w9 := bthen hB hBb
  have c0 : w9.cell? ⟨w.heap.size, 0, none⟩ = some (.string ⟨#[]⟩) := by simp [World.cell?, hb9']
  have c1 : w9.cell? ⟨w.heap.size, 1, none⟩ = some (.int .u8 0) := by simp [World.cell?, hb9']
  have c2 : w9.cell? ⟨w.heap.size, 2, none⟩ = some (.int .u64 0) := by simp [World.cell?, hb9']
  have f0 : w9.frozen? ⟨w.heap.size, 0, none⟩ = false := by simp [World.frozen?, hb9']
  have f1 : w9.frozen? ⟨w.heap.size, 1, none⟩ = false := by simp [World.frozen?, hb9']
  have f2 : w9.frozen? ⟨w.heap.size, 2, none⟩ = false := by simp [World.frozen?, hb9']
  go_wp2_with fail
  have hb5 : (((w9.setCell ⟨w.heap.size, 0, none⟩ (.string ⟨#[]⟩)).setCell ⟨w.heap.size, 1, none⟩ (.int .u8 0)).setCell ⟨w.heap.size, 2, none⟩ (.int .u64 0)).heap[w.heap.size]? = some (.cells #[.string ⟨#[]⟩, .int .u8 0, .int .u64 0] 25 (0, 0)) :=
    cells_set (i := 2) (cells_set (i := 1) (cells_set (i := 0) hb9'))
  have hB5 : Below w.heap.size w (((w9.setCell ⟨w.heap.size, 0, none⟩ (.string ⟨#[]⟩)).setCell ⟨w.heap.size, 1, none⟩ (.int .u8 0)).setCell ⟨w.heap.size, 2, none⟩ (.int .u64 0)) :=
    ((hB9'.setCell (p := ⟨w.heap.size, 0, none⟩) (Nat.le_refl _) _).setCell (p := ⟨w.heap.size, 1, none⟩) (Nat.le_refl _) _).setCell (p := ⟨w.heap.size, 2, none⟩) (Nat.le_refl _) _
  generalize ((w9.setCell ⟨w.heap.size, 0, none⟩ (.string ⟨#[]⟩)).setCell ⟨w.heap.size, 1, none⟩ (.int .u8 0)).setCell ⟨w.heap.size, 2, none⟩ (.int .u64 0) = W5 at *
  have d0 : W5.cell? ⟨w.heap.size, 0, none⟩ = some (.string ⟨#[]⟩) := by simp [World.cell?, hb5]
  have d1 : W5.cell? ⟨w.heap.size, 1, none⟩ = some (.int .u8 0) := by simp [World.cell?, hb5]
  have d2 : W5.cell? ⟨w.heap.size, 2, none⟩ = some (.int .u64 0) := by simp [World.cell?, hb5]
  refine ⟨rfl, .tuple #[.agg #[.string ⟨#[]⟩, .int .u8 0, .int .u64 0], .iface 91 (.agg #[.int .i64 81, .int .i64 k])], ?_, congrArg Ending.returned hV2.symm, hB5⟩
  simp only [results, Tryz.results25]
  go_simp))
set_option hygiene false in
local macro "get_tail" x:term : tactic => `(tactic| (
  clear q0 q1 q2
  have KP7 := KP W7 (hE.below hB7)
  refine KP7.mono ?_
  rintro e w8 ⟨rfl, hB8⟩
  have hx8 := (hB8.block _ (lt_block hx)).trans hx
  have hb8 := (hB8.block _ (lt_block hb7)).trans hb7
  have hB : Below w.heap.size w w8 := bthen hB7 hB8
  have c0 : w8.cell? ⟨w.heap.size, 0, none⟩ = some (.string ⟨#[]⟩) := by simp [World.cell?, hb8]
  have c1 : w8.cell? ⟨w.heap.size, 1, none⟩ = some (.int .u8 0) := by simp [World.cell?, hb8]
  have c2 : w8.cell? ⟨w.heap.size, 2, none⟩ = some (.int .u64 0) := by simp [World.cell?, hb8]
  have f0 : w8.frozen? ⟨w.heap.size, 0, none⟩ = false := by simp [World.frozen?, hb8]
  have f1 : w8.frozen? ⟨w.heap.size, 1, none⟩ = false := by simp [World.frozen?, hb8]
  have f2 : w8.frozen? ⟨w.heap.size, 2, none⟩ = false := by simp [World.frozen?, hb8]
  have x0 : w8.cell? ⟨w6.heap.size, 0, none⟩ = some (.string P) := by simp [World.cell?, hx8]
  have x1 : w8.cell? ⟨w6.heap.size, 1, none⟩ = some (.int .u8 $x) := by simp [World.cell?, hx8]
  have x2 : w8.cell? ⟨w6.heap.size, 2, none⟩ = some (.int .u64 (sizeOfB l)) := by simp [World.cell?, hx8]
  have hE8 := hE.below hB
  have hN8 := hN.below hB
  clear hB7 hx hb7 hB8 KP
  cases hR : putHL (pathOf l) tb (sizeOfB l) with
  | none =>
    rw [hR] at hV
    simp only [PutRes]
    replace hbad := hbad (by rw [hR]; simp)
    have hV2 := hV.symm.trans (if_neg (by simp))
    get_miss
  | some b =>
    rw [hR] at hV
    simp only [PutRes]
    obtain ⟨bs, hbs⟩ : ∃ bs : ByteArray, (⟨b.toArray⟩ : ByteArray) = bs := ⟨_, rfl⟩
    rw [hbs]
    by_cases hbl : b = l
    · have hcb : (bs.toList == s.toList) = true := by rw [toList_data, toList_data, ← hbs, hl]; simpa using hbl
      have hV2 := hV.symm.trans (if_pos (by rw [hbl]))
      clear hbad
      go_wp2_with fail
      have hb5 : (((w8.setCell ⟨w.heap.size, 0, none⟩ (.string P)).setCell ⟨w.heap.size, 1, none⟩ (.int .u8 $x)).setCell ⟨w.heap.size, 2, none⟩ (.int .u64 (sizeOfB l))).heap[w.heap.size]? = some (.cells #[.string P, .int .u8 $x, .int .u64 (sizeOfB l)] 25 (0, 0)) :=
        cells_set (i := 2) (cells_set (i := 1) (cells_set (i := 0) hb8))
      have hB5 : Below w.heap.size w (((w8.setCell ⟨w.heap.size, 0, none⟩ (.string P)).setCell ⟨w.heap.size, 1, none⟩ (.int .u8 $x)).setCell ⟨w.heap.size, 2, none⟩ (.int .u64 (sizeOfB l))) :=
        ((hB.setCell (p := ⟨w.heap.size, 0, none⟩) (Nat.le_refl _) _).setCell (p := ⟨w.heap.size, 1, none⟩) (Nat.le_refl _) _).setCell (p := ⟨w.heap.size, 2, none⟩) (Nat.le_refl _) _
      generalize ((w8.setCell ⟨w.heap.size, 0, none⟩ (.string P)).setCell ⟨w.heap.size, 1, none⟩ (.int .u8 $x)).setCell ⟨w.heap.size, 2, none⟩ (.int .u64 (sizeOfB l)) = W5 at *
      have d0 : W5.cell? ⟨w.heap.size, 0, none⟩ = some (.string P) := by simp [World.cell?, hb5]
      have d1 : W5.cell? ⟨w.heap.size, 1, none⟩ = some (.int .u8 $x) := by simp [World.cell?, hb5]
      have d2 : W5.cell? ⟨w.heap.size, 2, none⟩ = some (.int .u64 (sizeOfB l)) := by simp [World.cell?, hb5]
      refine ⟨rfl, .tuple #[.agg #[.string P, .int .u8 $x, .int .u64 (sizeOfB l)], .nilIface], ?_, congrArg Ending.returned hV2.symm, hB5⟩
      simp only [results, Tryz.results25]
      go_simp
    · have hcb : (bs.toList == s.toList) = false := by rw [toList_data, toList_data, ← hbs, hl]; simpa using hbl
      replace hbad := hbad (by rw [hR]; simpa using hbl)
      have hV2 := hV.symm.trans (if_neg (by simpa using hbl))
      get_miss))

set_option maxRecDepth 100000 in
set_option maxHeartbeats 2000000 in
theorem get_fine (s : ByteArray) (hs : s.size = 512) (l : List UInt8) (hl : s.data.toList = l) (heq : (l.drop 148).take 8 = checkL (sumX l)) (w : World) {ea a1 a2 : Addr} (hE : PathErr w ea) (hN : NumErrs w a1 a2) (k : Int)
    (hbad : putHL (pathOf l) (l.getD 156 0) (sizeOfB l) ≠ some l → ∀ W : World, PathErr W ea → NumErrs W a1 a2 → Calls Tryz.prog 47 #[.string s] W fun e w' => e = .returned (.int .i64 k) ∧ Below W.heap.size W w') :
    Calls Tryz.prog 25 #[.string s] w fun e w' => e = .returned (FineRes l k) ∧ Below w.heap.size w w' := by
  obtain ⟨W1, hW1⟩ : ∃ W1, W1 = w.alloc (.cells #[.string ⟨#[]⟩, .int .u8 0, .int .u64 0] 25) := ⟨_, rfl⟩
  have hb : W1.heap[w.heap.size]? = some (.cells #[.string ⟨#[]⟩, .int .u8 0, .int .u64 0] 25 (0, 0)) := by rw [hW1]; exact World.alloc_heap_new w _
  have hB1 : Below w.heap.size w W1 := by rw [hW1]; exact (Below.refl _ w).alloc (Nat.le_refl _) _
  have K := Lib.hid (HSum_ok s hs W1)
  rw [hl] at K
  have hss : sumX l < 262144 := sum_small (by rw [← hl]; simpa using hs)
  obtain ⟨n, hn⟩ : ∃ n, sumX l = n := ⟨_, rfl⟩
  rw [hn] at K hss heq
  have KC := Lib.hid fun W => check_any n hss W
  obtain ⟨t, ht⟩ : ∃ t, s.extract 148 156 = t := ⟨_, rfl⟩
  have hcmp : (t.toList == checkL n) = true := by
    rw [toList_data, ← ht, sub_list, List.drop_take, hl]
    simpa using heq
  have hsz : (s.size : Int) = 512 := by omega
  -- the fields
  obtain ⟨u0, hu0⟩ : ∃ u, s.extract 0 100 = u := ⟨_, rfl⟩
  obtain ⟨u1, hu1⟩ : ∃ u, s.extract 345 500 = u := ⟨_, rfl⟩
  obtain ⟨u2, hu2⟩ : ∃ u, s.extract 124 135 = u := ⟨_, rfl⟩
  have l0 : u0.data.toList = fieldOf l 0 100 := by rw [← hu0, sub_list, List.drop_take, hl]; rfl
  have l1 : u1.data.toList = fieldOf l 345 155 := by rw [← hu1, sub_list, List.drop_take, hl]; rfl
  have l2 : u2.data.toList = fieldOf l 124 11 := by rw [← hu2, sub_list, List.drop_take, hl]; rfl
  have z0 : u0.size ≤ 140737488351232 := by rw [← hu0, ByteArray.size_extract]; omega
  have z1 : u1.size ≤ 140737488351232 := by rw [← hu1, ByteArray.size_extract]; omega
  have z2 : u2.size ≤ 140737488351232 := by rw [← hu2, ByteArray.size_extract]; omega
  have K0 := fun W => plain_any u0 z0 W
  have K1 := fun W => plain_any u1 z1 W
  have K2 := fun W => Read_any u2 z2 W (a1 := a1) (a2 := a2)
  rw [l0] at K0
  rw [l1] at K1
  rw [l2] at K2
  obtain ⟨v2, hv2⟩ := getRes_any (readL (fieldOf l 124 11))
  rw [hv2] at K2
  have es : (readL (fieldOf l 124 11)).getD 0 = sizeOfB l := rfl
  rw [es] at K2
  obtain ⟨nm, hnm⟩ : ∃ nm : ByteArray, (⟨(plainL (fieldOf l 0 100)).toArray⟩ : ByteArray) = nm := ⟨_, rfl⟩
  obtain ⟨pre, hpre⟩ : ∃ nm : ByteArray, (⟨(plainL (fieldOf l 345 155)).toArray⟩ : ByteArray) = nm := ⟨_, rfl⟩
  rw [hnm] at K0
  rw [hpre] at K1
  have dnm : nm.data.toList = plainL (fieldOf l 0 100) := by rw [← hnm]
  have dpre : pre.data.toList = plainL (fieldOf l 345 155) := by rw [← hpre]
  have KT := fun W => Tryz.strings_TrimSuffix nm ⟨#[47]⟩ W (by
    have := trimRight_le (fieldOf l 0 100) 0
    have h2 : (fieldOf l 0 100).length ≤ 100 := by unfold fieldOf; simp; omega
    have h3 : nm.size = (Lib.trimRightB (fieldOf l 0 100) 0).length := by rw [← hnm]; rfl
    omega)
  obtain ⟨nm1, hnm1⟩ : ∃ nm1 : ByteArray, (⟨(Lib.trimSuffix nm.data.toList (⟨#[47]⟩ : ByteArray).data.toList).toArray⟩ : ByteArray) = nm1 := ⟨_, rfl⟩
  rw [hnm1] at KT
  have zn : nm.size ≤ 100 := by
    have := trimRight_le (fieldOf l 0 100) 0
    have h2 : (fieldOf l 0 100).length ≤ 100 := by unfold fieldOf; simp; omega
    have h3 : nm.size = (Lib.trimRightB (fieldOf l 0 100) 0).length := by rw [← hnm]; rfl
    omega
  have zn1 : nm1.size ≤ 100 := by
    have := trimSuffix_le nm.data.toList (⟨#[47]⟩ : ByteArray).data.toList
    have h3 : nm1.size = (Lib.trimSuffix nm.data.toList (⟨#[47]⟩ : ByteArray).data.toList).length := by rw [← hnm1]; rfl
    have h4 : nm.data.toList.length = nm.size := by simp
    omega
  have zp : pre.size ≤ 155 := by
    have := trimRight_le (fieldOf l 345 155) 0
    have h2 : (fieldOf l 345 155).length ≤ 155 := by unfold fieldOf; simp; omega
    have h3 : pre.size = (Lib.trimRightB (fieldOf l 345 155) 0).length := by rw [← hpre]; rfl
    omega
  have q0 : ¬ 9223372036854775807 < pre.size + 1 := by omega
  have q1 : ¬ 9223372036854775807 < pre.size + 1 + nm.size := by omega
  have q2 : ¬ 9223372036854775807 < pre.size + 1 + nm1.size := by omega
  replace K0 := Lib.hid K0
  replace K1 := Lib.hid K1
  replace K2 := Lib.hid K2
  replace KT := Lib.hid KT
  obtain ⟨P, hP⟩ : ∃ P : ByteArray, (⟨(pathOf l).toArray⟩ : ByteArray) = P := ⟨_, rfl⟩
  have dP : P.data.toList = pathOf l := by rw [← hP]
  have zP : P.size ≤ 1048576 := by
    have := pathOf_le l
    have h3 : P.size = (pathOf l).length := by rw [← hP]; rfl
    omega
  obtain ⟨tb, htb⟩ : ∃ tb, l.getD 156 0 = tb := ⟨_, rfl⟩
  have hix : (s[156]'(by omega)) = tb := by
    rw [← htb, ← hl]
    have h2 : 156 < s.data.toList.length := by simpa using (show 156 < s.size by omega)
    rw [List.getD_eq_getElem?_getD, List.getElem?_eq_getElem h2]
    simp
    rfl
  have KP := fun W => PutH_any P zP tb (sizeOfB l) W (ea := ea)
  rw [dP] at KP
  unfold FineRes
  rw [hP]
  rw [htb] at hbad ⊢
  obtain ⟨ti, hti⟩ : ∃ ti : Int, (tb.toNat : Int) = ti := ⟨_, rfl⟩
  have t53 : tb = 53 ↔ ti = 53 := by rw [← hti]; exact ⟨fun e => by rw [e]; rfl, fun e => UInt8.toNat_inj.1 (by show tb.toNat = 53; omega)⟩
  have hP0 : P = (if plainL (fieldOf l 345 155) = [] then (if ti = 53 then nm1 else nm) else pre ++ ⟨#[47]⟩ ++ (if ti = 53 then nm1 else nm)) := by
    apply ByteArray.ext
    apply Array.toList_inj.1
    rw [dP]
    unfold pathOf
    simp only [htb, t53]
    have d1 : nm1.data.toList = Lib.trimSuffix (plainL (fieldOf l 0 100)) [47] := by rw [← hnm1, dnm]
    split
    · split
      · rw [d1]
      · rw [dnm]
    · split
      · simp [d1, dpre]
      · simp [dnm, dpre]
  have kz := lt_block hb
  simp only [headV, hti] at KP
  unfold headV
  simp only [hti]
  obtain ⟨V, hV⟩ : ∃ V, (if putHL (pathOf l) tb (sizeOfB l) = some l then Value.tuple #[.agg #[.string P, .int .u8 ti, .int .u64 (sizeOfB l)], .nilIface] else .tuple #[.agg #[.string ⟨#[]⟩, .int .u8 ((0 : Nat) : Int), .int .u64 ((0 : Nat) : Int)], .iface 91 (.agg #[.int .i64 81, .int .i64 k])]) = V := ⟨_, rfl⟩
  rw [hV]
  clear hnm hnm1 dnm dpre l0 l1 l2 hn heq z0 z1 z2 t53 hv2 es
  go_enter Tryz.func25, Tryz.ntmps25
  go_wp2_with fail
  rw [← hW1]
  refine K.out.mono ?_
  rintro e w2 ⟨rfl, hB⟩
  have hb2 := (hB.block _ kz).trans hb
  have hB2 : Below w.heap.size w w2 := hB1.trans (hB.mono hB1.size)
  clear K hW1 hb hB
  go_wp2_with fail
  go_region_held3 (fun _ => True) (trivial) (first | (go_at_call 36; refine (KC.out _).mono ?_; rintro e w3 ⟨rfl, hB3⟩))
  have hb3 : w3.heap[w.heap.size]? = some (.cells #[.string ⟨#[]⟩, .int .u8 0, .int .u64 0] 25 (0, 0)) := (hB3.block _ (lt_block hb2)).trans hb2
  have hB4 : Below w.heap.size w w3 := hB2.trans ((show Below w2.heap.size w2 w3 from ((Below.refl _ w2).drew).trans hB3).mono hB2.size)
  clear hb2 hB2 hB3
  go_wp2_with fail
  refine (K0.out _).mono ?_
  rintro e w4 ⟨rfl, hB5⟩
  go_wp2_with fail
  refine (K1.out _).mono ?_
  rintro e w5 ⟨rfl, hB6⟩
  go_wp2_with fail
  have hB7 : Below w.heap.size w w5 := bthen (bthen hB4 hB5) hB6
  have hb7 := (hB6.block _ (lt_block ((hB5.block _ (lt_block hb3)).trans hb3))).trans ((hB5.block _ (lt_block hb3)).trans hb3)
  clear hB4 hB5 hB6 hb3
  refine (K2.out _ (hN.below hB7)).mono ?_
  rintro e w6 ⟨rfl, hB8⟩
  have hB9 : Below w.heap.size w w6 := bthen hB7 hB8
  have hb9 := (hB8.block _ (lt_block hb7)).trans hb7
  clear hB7 hB8 hb7
  dsimp only
  by_cases hpe : plainL (fieldOf l 345 155) = []
  · obtain rfl : pre = ⟨#[]⟩ := by rw [← hpre, hpe]
    rw [if_pos hpe] at hP0
    clear hpre hpe
    by_cases ht53 : ti = 53
    · rw [if_pos ht53] at hP0
      subst hP0
      subst ht53
      go_wp2_with fail
      obtain ⟨W6, hW6⟩ : ∃ W6, W6 = w6.alloc (.cells #[.string nm, .int .u8 53, .int .u64 (sizeOfB l)] 25) := ⟨_, rfl⟩
      rw [← hW6]
      have hx6 : W6.heap[w6.heap.size]? = some (.cells #[.string nm, .int .u8 53, .int .u64 (sizeOfB l)] 25 (0, 0)) := by rw [hW6]; exact World.alloc_heap_new w6 _
      have hb6 : W6.heap[w.heap.size]? = some (.cells #[.string ⟨#[]⟩, .int .u8 0, .int .u64 0] 25 (0, 0)) := by rw [hW6]; exact old_at hb9
      have hB6 : Below w.heap.size w W6 := by rw [hW6]; exact hB9.alloc hB9.size _
      have hlt6 : w.heap.size < w6.heap.size := lt_block hb9
      clear hW6 hB9 hb9
      refine (KT.out _).mono ?_
      rintro e w7 ⟨rfl, hw⟩
      replace hw := hw.symm
      subst hw
      have x0 : W6.cell? ⟨w6.heap.size, 0, none⟩ = some (.string nm) := by simp [World.cell?, hx6]
      have x1 : W6.cell? ⟨w6.heap.size, 1, none⟩ = some (.int .u8 53) := by simp [World.cell?, hx6]
      have x2 : W6.cell? ⟨w6.heap.size, 2, none⟩ = some (.int .u64 (sizeOfB l)) := by simp [World.cell?, hx6]
      have g0 : W6.frozen? ⟨w6.heap.size, 0, none⟩ = false := by simp [World.frozen?, hx6]
      go_wp2_with fail
      clear x0 x1 x2 g0
      have hx : (W6.setCell ⟨w6.heap.size, 0, none⟩ (.string P)).heap[w6.heap.size]? = some (.cells #[.string P, .int .u8 53, .int .u64 (sizeOfB l)] 25 (0, 0)) := cells_set (i := 0) hx6
      have hb7 : (W6.setCell ⟨w6.heap.size, 0, none⟩ (.string P)).heap[w.heap.size]? = some (.cells #[.string ⟨#[]⟩, .int .u8 0, .int .u64 0] 25 (0, 0)) := (Below.heap_setCell _ _ _ _ (Nat.ne_of_lt hlt6)).trans hb6
      have hB7 : Below w.heap.size w (W6.setCell ⟨w6.heap.size, 0, none⟩ (.string P)) := hB6.setCell (p := ⟨w6.heap.size, 0, none⟩) (Nat.le_of_lt hlt6) _
      generalize W6.setCell ⟨w6.heap.size, 0, none⟩ (.string P) = W7 at *
      get_tail 53
    · rw [if_neg ht53] at hP0
      subst hP0
      go_wp2_with fail
      obtain ⟨W7, hW7⟩ : ∃ W7, W7 = w6.alloc (.cells #[.string P, .int .u8 ti, .int .u64 (sizeOfB l)] 25) := ⟨_, rfl⟩
      rw [← hW7]
      have hx6 : W7.heap[w6.heap.size]? = some (.cells #[.string P, .int .u8 ti, .int .u64 (sizeOfB l)] 25 (0, 0)) := by rw [hW7]; exact World.alloc_heap_new w6 _
      have hb6 : W7.heap[w.heap.size]? = some (.cells #[.string ⟨#[]⟩, .int .u8 0, .int .u64 0] 25 (0, 0)) := by rw [hW7]; exact old_at hb9
      have hB6 : Below w.heap.size w W7 := by rw [hW7]; exact hB9.alloc hB9.size _
      have hlt6 : w.heap.size < w6.heap.size := lt_block hb9
      clear hW7 hB9 hb9
      have hx := hx6
      have hb7 := hb6
      have hB7 := hB6
      get_tail ti
  · have hne : (pre.toList == []) = false := by rw [toList_data, ← hpre]; simpa using hpe
    rw [if_neg hpe] at hP0
    clear hpre hpe
    by_cases ht53 : ti = 53
    · rw [if_pos ht53] at hP0
      replace hP0 := hP0.symm
      subst ht53
      go_wp2_with fail
      obtain ⟨W5, hW5⟩ : ∃ W5, W5 = w6.alloc (.cells #[.string nm, .int .u8 53, .int .u64 (sizeOfB l)] 25) := ⟨_, rfl⟩
      rw [← hW5]
      have hx6 : W5.heap[w6.heap.size]? = some (.cells #[.string nm, .int .u8 53, .int .u64 (sizeOfB l)] 25 (0, 0)) := by rw [hW5]; exact World.alloc_heap_new w6 _
      have hb6 : W5.heap[w.heap.size]? = some (.cells #[.string ⟨#[]⟩, .int .u8 0, .int .u64 0] 25 (0, 0)) := by rw [hW5]; exact old_at hb9
      have hB6 : Below w.heap.size w W5 := by rw [hW5]; exact hB9.alloc hB9.size _
      have hlt6 : w.heap.size < w6.heap.size := lt_block hb9
      clear hW5 hB9 hb9
      refine (KT.out _).mono ?_
      rintro e w7 ⟨rfl, hw⟩
      replace hw := hw.symm
      subst hw
      have x0 : W5.cell? ⟨w6.heap.size, 0, none⟩ = some (.string nm) := by simp [World.cell?, hx6]
      have x1 : W5.cell? ⟨w6.heap.size, 1, none⟩ = some (.int .u8 53) := by simp [World.cell?, hx6]
      have x2 : W5.cell? ⟨w6.heap.size, 2, none⟩ = some (.int .u64 (sizeOfB l)) := by simp [World.cell?, hx6]
      have g0 : W5.frozen? ⟨w6.heap.size, 0, none⟩ = false := by simp [World.frozen?, hx6]
      go_wp2_with fail
      clear x0 x1 x2 g0
      have hx5 : (W5.setCell ⟨w6.heap.size, 0, none⟩ (.string nm1)).heap[w6.heap.size]? = some (.cells #[.string nm1, .int .u8 53, .int .u64 (sizeOfB l)] 25 (0, 0)) := cells_set (i := 0) hx6
      have hb5' : (W5.setCell ⟨w6.heap.size, 0, none⟩ (.string nm1)).heap[w.heap.size]? = some (.cells #[.string ⟨#[]⟩, .int .u8 0, .int .u64 0] 25 (0, 0)) := (Below.heap_setCell _ _ _ _ (Nat.ne_of_lt hlt6)).trans hb6
      have hB5' : Below w.heap.size w (W5.setCell ⟨w6.heap.size, 0, none⟩ (.string nm1)) := hB6.setCell (p := ⟨w6.heap.size, 0, none⟩) (Nat.le_of_lt hlt6) _
      generalize W5.setCell ⟨w6.heap.size, 0, none⟩ (.string nm1) = W6 at *
      have hx : (W6.setCell ⟨w6.heap.size, 0, none⟩ (.string P)).heap[w6.heap.size]? = some (.cells #[.string P, .int .u8 53, .int .u64 (sizeOfB l)] 25 (0, 0)) := cells_set (i := 0) hx5
      have hb7 : (W6.setCell ⟨w6.heap.size, 0, none⟩ (.string P)).heap[w.heap.size]? = some (.cells #[.string ⟨#[]⟩, .int .u8 0, .int .u64 0] 25 (0, 0)) := (Below.heap_setCell _ _ _ _ (Nat.ne_of_lt hlt6)).trans hb5'
      have hB7 : Below w.heap.size w (W6.setCell ⟨w6.heap.size, 0, none⟩ (.string P)) := hB5'.setCell (p := ⟨w6.heap.size, 0, none⟩) (Nat.le_of_lt hlt6) _
      generalize W6.setCell ⟨w6.heap.size, 0, none⟩ (.string P) = W7 at *
      get_tail 53
    · rw [if_neg ht53] at hP0
      replace hP0 := hP0.symm
      go_wp2_with fail
      obtain ⟨W7, hW7⟩ : ∃ W7, W7 = w6.alloc (.cells #[.string P, .int .u8 ti, .int .u64 (sizeOfB l)] 25) := ⟨_, rfl⟩
      rw [← hW7]
      have hx : W7.heap[w6.heap.size]? = some (.cells #[.string P, .int .u8 ti, .int .u64 (sizeOfB l)] 25 (0, 0)) := by rw [hW7]; exact World.alloc_heap_new w6 _
      have hb7 : W7.heap[w.heap.size]? = some (.cells #[.string ⟨#[]⟩, .int .u8 0, .int .u64 0] 25 (0, 0)) := by rw [hW7]; exact old_at hb9
      have hB7 : Below w.heap.size w W7 := by rw [hW7]; exact hB9.alloc hB9.size _
      clear hW7 hB9 hb9
      get_tail ti
end Go.Proofs.YtkfaejnpgdbhlaaGreatDoor

/-
  header.Get by contract, whatever get answers; and where the sum is right.
-/
namespace Go.Proofs.YtkfaejnpgdbhlaaGreatDoor
open Go.RowKit

set_option maxRecDepth 100000 in
theorem Get_of (s t : ByteArray) (hs : 512 ≤ s.size) (hs2 : s.size ≤ 140737488351232) (ht : s.extract 0 512 = t) (p : ByteArray) (x n : Nat) (ev : Value) (pl er : Int) (w : World)
    (K : ∀ W, Below w.heap.size w W → Calls Tryz.prog 25 #[.string t] W fun e w' => e = .returned (.tuple #[headV p x n, ev]) ∧ Below W.heap.size W w')
    (KT : ∀ W, Below w.heap.size w W → Calls Tryz.prog 26 #[ev] W fun e w' => e = .returned (.tuple #[.int .i64 pl, .int .i64 er]) ∧ Below W.heap.size W w') :
    Calls Tryz.prog 12 #[.string s] w fun e w' => e = .returned (.tuple #[headV p x n, .int .i64 pl, .int .i64 er]) ∧ Below w.heap.size w w' := by
  obtain ⟨W1, hW1⟩ : ∃ W1, W1 = w.alloc (.cells #[.string ⟨#[]⟩, .int .u8 0, .int .u64 0] 25) := ⟨_, rfl⟩
  have hb : W1.heap[w.heap.size]? = some (.cells #[.string ⟨#[]⟩, .int .u8 0, .int .u64 0] 25 (0, 0)) := by rw [hW1]; exact World.alloc_heap_new w _
  have hB1 : Below w.heap.size w W1 := by rw [hW1]; exact (Below.refl _ w).alloc (Nat.le_refl _) _
  have kz := lt_block hb
  have h1 : ¬ (s.size : Int) < 512 := by omega
  have h2 : (512 : Int) ≤ s.size := by omega
  replace K := K W1 hB1
  unfold headV at *
  replace K := Lib.hid K
  replace KT := Lib.hid KT
  go_enter Tryz.func12, Tryz.ntmps12
  go_wp2_with fail
  rw [← hW1]
  refine K.out.mono ?_
  rintro e w2 ⟨rfl, hB⟩
  have hb2 := (hB.block _ kz).trans hb
  have hB2 : Below w.heap.size w w2 := hB1.trans (hB.mono hB1.size)
  clear K hW1 hb hB
  go_wp2_with fail
  obtain ⟨W3, hW3⟩ : ∃ W3, W3 = w2.alloc (.cells #[.string p, .int .u8 x, .int .u64 n] 25) := ⟨_, rfl⟩
  have hx3 : W3.heap[w2.heap.size]? = some (.cells #[.string p, .int .u8 x, .int .u64 n] 25 (0, 0)) := by rw [hW3]; exact World.alloc_heap_new w2 _
  have hb3 : W3.heap[w.heap.size]? = some (.cells #[.string ⟨#[]⟩, .int .u8 0, .int .u64 0] 25 (0, 0)) := by rw [hW3]; exact old_at hb2
  have hB3 : Below w.heap.size w W3 := by rw [hW3]; exact hB2.alloc hB2.size _
  rw [← hW3]
  refine (KT.out _ hB3).mono ?_
  rintro e w4 ⟨rfl, hB⟩
  have hx4 := (hB.block _ (lt_block hx3)).trans hx3
  have hb4 := (hB.block _ (lt_block hb3)).trans hb3
  have hB4 : Below w.heap.size w w4 := hB3.trans (hB.mono hB3.size)
  have x0 : w4.cell? ⟨w2.heap.size, 0, none⟩ = some (.string p) := by simp [World.cell?, hx4]
  have x1 : w4.cell? ⟨w2.heap.size, 1, none⟩ = some (.int .u8 x) := by simp [World.cell?, hx4]
  have x2 : w4.cell? ⟨w2.heap.size, 2, none⟩ = some (.int .u64 n) := by simp [World.cell?, hx4]
  have c0 : w4.cell? ⟨w.heap.size, 0, none⟩ = some (.string ⟨#[]⟩) := by simp [World.cell?, hb4]
  have c1 : w4.cell? ⟨w.heap.size, 1, none⟩ = some (.int .u8 0) := by simp [World.cell?, hb4]
  have c2 : w4.cell? ⟨w.heap.size, 2, none⟩ = some (.int .u64 0) := by simp [World.cell?, hb4]
  have f0 : w4.frozen? ⟨w.heap.size, 0, none⟩ = false := by simp [World.frozen?, hb4]
  have f1 : w4.frozen? ⟨w.heap.size, 1, none⟩ = false := by simp [World.frozen?, hb4]
  have f2 : w4.frozen? ⟨w.heap.size, 2, none⟩ = false := by simp [World.frozen?, hb4]
  clear hW3 hx3 hb3 hB3 hB KT hb2 hB2
  go_wp2_with fail
  have hb5 : (((w4.setCell ⟨w.heap.size, 0, none⟩ (.string p)).setCell ⟨w.heap.size, 1, none⟩ (.int .u8 x)).setCell ⟨w.heap.size, 2, none⟩ (.int .u64 n)).heap[w.heap.size]? = some (.cells #[.string p, .int .u8 x, .int .u64 n] 25 (0, 0)) :=
    cells_set (i := 2) (cells_set (i := 1) (cells_set (i := 0) hb4))
  have hB5 : Below w.heap.size w (((w4.setCell ⟨w.heap.size, 0, none⟩ (.string p)).setCell ⟨w.heap.size, 1, none⟩ (.int .u8 x)).setCell ⟨w.heap.size, 2, none⟩ (.int .u64 n)) :=
    ((hB4.setCell (p := ⟨w.heap.size, 0, none⟩) (Nat.le_refl _) _).setCell (p := ⟨w.heap.size, 1, none⟩) (Nat.le_refl _) _).setCell (p := ⟨w.heap.size, 2, none⟩) (Nat.le_refl _) _
  generalize ((w4.setCell ⟨w.heap.size, 0, none⟩ (.string p)).setCell ⟨w.heap.size, 1, none⟩ (.int .u8 x)).setCell ⟨w.heap.size, 2, none⟩ (.int .u64 n) = W5 at *
  have d0 : W5.cell? ⟨w.heap.size, 0, none⟩ = some (.string p) := by simp [World.cell?, hb5]
  have d1 : W5.cell? ⟨w.heap.size, 1, none⟩ = some (.int .u8 x) := by simp [World.cell?, hb5]
  have d2 : W5.cell? ⟨w.heap.size, 2, none⟩ = some (.int .u64 n) := by simp [World.cell?, hb5]
  refine ⟨rfl, .tuple #[.agg #[.string p, .int .u8 x, .int .u64 n], .int .i64 pl, .int .i64 er], ?_, rfl, hB5⟩
  simp only [results, Tryz.results12]
  go_simp

/-- What Get hands back where the sum is right: k is the place of what is wrong. -/
def GetFine (l : List UInt8) (k : Int) : Value :=
  if putHL (pathOf l) (l.getD 156 0) (sizeOfB l) = some l then .tuple #[headV ⟨(pathOf l).toArray⟩ (l.getD 156 0).toNat (sizeOfB l), .int .i64 0, .int .i64 0]
  else .tuple #[headV ⟨#[]⟩ 0 0, .int .i64 k, .int .i64 81]

theorem Get_fine (s t : ByteArray) (hs : 512 ≤ s.size) (hs2 : s.size ≤ 140737488351232) (ht : s.extract 0 512 = t) (l : List UInt8) (hl : t.data.toList = l) (heq : (l.drop 148).take 8 = checkL (sumX l)) (w : World) {ea a1 a2 : Addr} (hE : PathErr w ea) (hN : NumErrs w a1 a2) (hT : ErrType w) (k : Int)
    (hbad : putHL (pathOf l) (l.getD 156 0) (sizeOfB l) ≠ some l → ∀ W : World, PathErr W ea → NumErrs W a1 a2 → Calls Tryz.prog 47 #[.string t] W fun e w' => e = .returned (.int .i64 k) ∧ Below W.heap.size W w') :
    Calls Tryz.prog 12 #[.string s] w fun e w' => e = .returned (GetFine l k) ∧ Below w.heap.size w w' := by
  have hts : t.size = 512 := by rw [← ht, ByteArray.size_extract]; omega
  have K := fun W (h : Below w.heap.size w W) => get_fine t hts l hl heq W (hE.below h) (hN.below h) k hbad
  unfold GetFine
  unfold FineRes at K
  by_cases hR : putHL (pathOf l) (l.getD 156 0) (sizeOfB l) = some l
  · rw [if_pos hR]
    refine Get_of s t hs hs2 ht _ _ _ .nilIface 0 0 w (fun W h => ?_) (fun W _ => told_nil_head W)
    have := K W h
    rw [if_pos hR] at this
    exact this
  · rw [if_neg hR]
    refine Get_of s t hs hs2 ht _ _ _ (.iface 91 (.agg #[.int .i64 81, .int .i64 k])) k 81 w (fun W h => ?_) (fun W h => told_hit 81 k W (hT.below h))
    have := K W h
    rw [if_neg hR] at this
    exact this

/-- The head of a head's own block. -/
theorem Get_own (p : ByteArray) (t : UInt8) (n : Nat) (b : List UInt8) (h : putHL p.data.toList t n = some b) (s : ByteArray) (hs2 : s.size ≤ 140737488351232) (hsb : s.data.toList.take 512 = b) (w : World) {ea a1 a2 : Addr} (hE : PathErr w ea) (hN : NumErrs w a1 a2) (hT : ErrType w) :
    Calls Tryz.prog 12 #[.string s] w fun e w' => e = .returned (.tuple #[headV p t.toNat n, .int .i64 0, .int .i64 0]) ∧ Below w.heap.size w w' := by
  have hbl := putHL_len h
  have hs : 512 ≤ s.size := by
    have : (s.data.toList.take 512).length = 512 := by rw [hsb]; exact hbl
    rw [List.length_take] at this
    have h3 : s.data.toList.length = s.size := by simp
    omega
  obtain ⟨h1, h2, h3⟩ := parse_back h
  have hl : (s.extract 0 512).data.toList = b := by rw [sub_list]; simpa using hsb
  have heq : (b.drop 148).take 8 = checkL (sumX b) := by
    cases hh : headL p.data.toList t n with
    | none => unfold putHL at h; rw [hh] at h; cases h
    | some pn =>
      obtain ⟨pre, nm⟩ := pn
      have hfit := texts_fit hh
      rw [putHL_some hh] at h
      obtain ⟨l, hl'⟩ : ∃ l, flatW wids (textsL pre (if t = 53 then nm ++ [47] else nm) (if t = 53 then 493 else 420) n t []) = l := ⟨_, rfl⟩
      have hll : l.length = 512 := by rw [← hl', flatW_length _ _ hfit]; rfl
      rw [hl'] at h
      cases h
      rw [(summed_parts hll).2.1, summed_sum hll]
  have hR : putHL (pathOf b) (b.getD 156 0) (sizeOfB b) = some b := by rw [h1, h2, h3]; exact h
  have K := Get_fine s _ hs hs2 rfl b hl heq w hE hN hT 0 (fun hne => absurd hR hne)
  unfold GetFine at K
  rw [if_pos hR, h1, h2, h3, bytes_eta] at K
  exact K
end Go.Proofs.YtkfaejnpgdbhlaaGreatDoor
