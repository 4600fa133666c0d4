/-
  The statement HeaderFinds: one byte that is another one is found by the sum. Its walk.
-/
import Derived.Test.YtkfaejnpgdbhlaaGreatDoorHeadGetW
import Derived.Test.YtkfaejnpgdbhlaaGreatDoorHeadFlip
import Derived.Deep.RegionHeld3
namespace Go.Proofs.YtkfaejnpgdbhlaaGreatDoor
open Go.RowKit

theorem xor_u8 (a b : UInt8) : bits .xor .u8 (a.toNat : Int) (b.toNat : Int) = ((a ^^^ b).toNat : Int) := by
  have ha := a.toNat_lt
  have hb := b.toNat_lt
  unfold bits
  simp
  have e : IntKind.u8.bits = 8 := rfl
  rw [e, Nat.mod_eq_of_lt ha, Nat.mod_eq_of_lt hb]
  have hx := Nat.xor_lt_two_pow ha hb
  rw [IntKind.wrap_u8]
  omega

theorem xor_ne {a c : UInt8} (hc : c ≠ 0) : a ^^^ c ≠ a := fun h => hc (by
  have : a ^^^ (a ^^^ c) = a ^^^ a := by rw [h]
  rw [← UInt8.xor_assoc, UInt8.xor_self, UInt8.zero_xor] at this
  exact this)

set_option maxRecDepth 100000 in
set_option maxHeartbeats 2000000 in
theorem finds_hit (p q : ByteArray) (hs : p.size ≤ 140737488351232) (hq : p.extract 0 (min (p.size : Int) 300).toNat = q) (t : UInt8) (n : Nat) (i : Nat) (hi : i < 512) (c : UInt8) (hc : c ≠ 0) (l B : List UInt8) (hl : l.length = 512) (hlB : summedL l = B) (hB : putHL q.data.toList t n = some B)
    (w : World) {ea : Addr} (hE : PathErr w ea) (hT : ErrType w) :
    Calls Tryz.prog 5 #[headV p t.toNat n, .int .i64 i, .int .u8 c.toNat] w fun e w' => e = .returned (.bool true) ∧ Below w.heap.size w w' := by
  obtain ⟨W1, hW1⟩ : ∃ W1, W1 = w.alloc (.cells #[.string p, .int .u8 t.toNat, .int .u64 n] 25) := ⟨_, rfl⟩
  have hb : W1.heap[w.heap.size]? = some (.cells #[.string p, .int .u8 t.toNat, .int .u64 n] 25 (0, 0)) := by rw [hW1]; exact World.alloc_heap_new w _
  have hB1 : Below w.heap.size w W1 := by rw [hW1]; exact (Below.refl _ w).alloc (Nat.le_refl _) _
  have h0 := Lib.hid (shown_true W1 (hE.below hB1))
  have KF := Lib.hid fun W => Few_any p q hs hq t.toNat n W
  have hqs : q.size ≤ 300 := by rw [← hq, ByteArray.size_extract]; omega
  have KP := fun W h => PutH_any q (by omega) t n W (ea := ea) h
  rw [hB] at KP
  have hBl := putHL_len hB
  obtain ⟨bs, hbs⟩ : ∃ bs : ByteArray, (⟨B.toArray⟩ : ByteArray) = bs := ⟨_, rfl⟩
  simp only [PutRes, hbs] at KP
  replace KP := Lib.hid KP
  have hbz : bs.size = 512 := by rw [← hbs]; exact hBl
  have hbd : bs.data.toList = B := by rw [← hbs]
  have hcn : ¬ (c.toNat : Int) = 0 := fun e => hc (UInt8.toNat_inj.1 (by show c.toNat = 0; omega))
  have hcb : ((c.toNat : Int) == 0) = false := by simpa using hcn
  have b1 : ¬ (i : Int) < 0 := by omega
  have b2 : ¬ (511 : Int) < i := by omega
  have b3 : (0 : Int) ≤ i := by omega
  have b4 : (i : Int) < 512 := by omega
  have kz := lt_block hb
  unfold headV at *
  go_enter Tryz.func5, Tryz.ntmps5
  go_wp2_with fail
  rw [← hW1]
  refine h0.out.mono ?_
  rintro e w2 ⟨rfl, hB2⟩
  have hb2 := (hB2.block _ kz).trans hb
  have a0 : w2.cell? ⟨w.heap.size, 0, none⟩ = some (.string p) := by simp [World.cell?, hb2]
  have a1 : w2.cell? ⟨w.heap.size, 1, none⟩ = some (.int .u8 t.toNat) := by simp [World.cell?, hb2]
  have a2 : w2.cell? ⟨w.heap.size, 2, none⟩ = some (.int .u64 n) := by simp [World.cell?, hb2]
  have hBa : Below w.heap.size w w2 := hB1.trans (hB2.mono hB1.size)
  clear h0 hW1 hb hb2 hB2
  go_wp2_with fail
  refine (KF.out _).mono ?_
  rintro e w3 ⟨rfl, hB3⟩
  have hBb : Below w.heap.size w w3 := hBa.trans (hB3.mono hBa.size)
  clear KF a0 a1 a2 hB3
  go_wp2_with fail
  refine (KP.out _ (hE.below hBb)).mono ?_
  rintro e w4 ⟨rfl, hB4⟩
  have hBc : Below w.heap.size w w4 := hBb.trans (hB4.mono hBb.size)
  obtain ⟨cap, o, hrun, hcap, hcell, hfroz⟩ := bytes_conv2 bs w4
  rw [hbz] at hrun hcap hfroz
  rw [hbd] at hcell
  obtain ⟨W5, hW5⟩ : ∃ W5, W5 = w4.drew.alloc o := ⟨_, rfl⟩
  have hr5 : W5.heap[w4.heap.size]? = some o := by rw [hW5]; exact World.alloc_heap_new w4.drew o
  have hB5 : Below w.heap.size w W5 := by rw [hW5]; exact hBc.drew.alloc hBc.size _
  have cx : W5.cell? ⟨w4.heap.size, i, none⟩ = some (.int .u8 (B[i].toNat : Int)) := hcell W5 _ hr5 i (by omega)
  have fx : W5.frozen? ⟨w4.heap.size, i, none⟩ = false := hfroz W5 _ hr5 i hi
  have hz5 : w.heap.size ≤ w4.heap.size := hBc.size
  have hcells : ∀ j (_ : j < B.length), W5.cell? ⟨w4.heap.size, j, none⟩ = some (.int .u8 (B[j].toNat : Int)) := fun j hj => hcell W5 _ hr5 j hj
  generalize w4.heap.size = g at *
  rw [← hW5] at hrun
  obtain ⟨c2, hc2⟩ : ∃ c2, B[i] ^^^ c = c2 := ⟨_, rfl⟩
  have hxor : bits .xor .u8 (B[i].toNat : Int) (c.toNat : Int) = (c2.toNat : Int) := by rw [xor_u8, hc2]
  have hfl := flip_found hl hlB hBl hi (c := c2) (by rw [← hc2]; exact xor_ne hc)
  obtain ⟨W6, hW6⟩ : ∃ W6, W6 = W5.setCell ⟨g, i, none⟩ (.int .u8 (c2.toNat : Int)) := ⟨_, rfl⟩
  have hB6 : Below w.heap.size w W6 := by rw [hW6]; exact hB5.setCell (p := ⟨g, i, none⟩) hz5 _
  have hcells6 : ∀ j (_ : j < (B.set i c2).length), W6.cell? ⟨g, j, none⟩ = some (.int .u8 ((B.set i c2)[j].toNat : Int)) := fun j hj => by
    have hj' : j < B.length := by simpa using hj
    rw [hW6, List.getElem_set]
    by_cases e : i = j
    · subst e
      rw [if_pos rfl]
      exact World.cell?_setCell_same W5 ⟨g, i, none⟩ _ cx
    · rw [if_neg e]
      exact (World.cell?_setCell_other W5 ⟨g, i, none⟩ ⟨g, j, none⟩ _ (by intro h; injection h with _ h2; exact e h2)).trans (hcells j hj')
  have hconv := conv_cells (n := 0) (k := 512) (cap := cap) hcells6 (by simp; omega)
  rw [List.drop_zero, List.take_of_length_le (by simp; omega)] at hconv
  have hB2l : (B.set i c2).length = 512 := by simpa using hBl
  generalize B.set i c2 = B2 at *
  obtain ⟨b2s, hb2s⟩ : ∃ b2s : ByteArray, (⟨B2.toArray⟩ : ByteArray) = b2s := ⟨_, rfl⟩
  rw [hb2s] at hconv
  have hb2z : b2s.size = 512 := by rw [← hb2s]; exact hB2l
  have hb2d : b2s.data.toList = B2 := by rw [← hb2s]
  have hext : b2s.extract 0 512 = b2s := by
    apply ByteArray.ext
    apply Array.toList_inj.1
    rw [sub_list, List.drop_zero, List.take_of_length_le (by rw [hb2d]; omega)]
  have KG := Lib.hid (Get_wrong b2s b2s (by omega) (by omega) hext (by rw [hb2d]; exact hfl) W6 (hT.below hB6))
  unfold headV at KG
  rw [hW6] at hconv
  clear KP hB4 hcell hfroz hW5 hcells hcells6 hfl
  go_wp2_with fail
  rw [← hW6]
  refine KG.out.mono ?_
  rintro e w7 ⟨rfl, hB7⟩
  have hB8 : Below w.heap.size w w7 := hB6.trans (hB7.mono hB6.size)
  clear KG hconv hW6 cx fx hrun hr5
  go_wp2_with fail
  go_ret
  exact ⟨rfl, hB8.alloc hB8.size _⟩

set_option maxRecDepth 100000 in
set_option maxHeartbeats 2000000 in
theorem finds_none (p q : ByteArray) (hs : p.size ≤ 140737488351232) (hq : p.extract 0 (min (p.size : Int) 300).toNat = q) (t : UInt8) (n : Nat) (i c : Int) (hB : putHL q.data.toList t n = none)
    (w : World) {ea : Addr} (hE : PathErr w ea) :
    Calls Tryz.prog 5 #[headV p t.toNat n, .int .i64 i, .int .u8 c] w fun e w' => e = .returned (.bool true) ∧ Below w.heap.size w w' := by
  obtain ⟨W1, hW1⟩ : ∃ W1, W1 = w.alloc (.cells #[.string p, .int .u8 t.toNat, .int .u64 n] 25) := ⟨_, rfl⟩
  have hb : W1.heap[w.heap.size]? = some (.cells #[.string p, .int .u8 t.toNat, .int .u64 n] 25 (0, 0)) := by rw [hW1]; exact World.alloc_heap_new w _
  have hB1 : Below w.heap.size w W1 := by rw [hW1]; exact (Below.refl _ w).alloc (Nat.le_refl _) _
  have h0 := Lib.hid (shown_true W1 (hE.below hB1))
  have KF := Lib.hid fun W => Few_any p q hs hq t.toNat n W
  have hqs : q.size ≤ 300 := by rw [← hq, ByteArray.size_extract]; omega
  have KP := fun W h => PutH_any q (by omega) t n W (ea := ea) h
  rw [hB] at KP
  simp only [PutRes] at KP
  replace KP := Lib.hid KP
  have kz := lt_block hb
  unfold headV at *
  go_enter Tryz.func5, Tryz.ntmps5
  go_wp2_with fail
  rw [← hW1]
  refine h0.out.mono ?_
  rintro e w2 ⟨rfl, hB2⟩
  have hb2 := (hB2.block _ kz).trans hb
  have a0 : w2.cell? ⟨w.heap.size, 0, none⟩ = some (.string p) := by simp [World.cell?, hb2]
  have a1 : w2.cell? ⟨w.heap.size, 1, none⟩ = some (.int .u8 t.toNat) := by simp [World.cell?, hb2]
  have a2 : w2.cell? ⟨w.heap.size, 2, none⟩ = some (.int .u64 n) := by simp [World.cell?, hb2]
  have hBa : Below w.heap.size w w2 := hB1.trans (hB2.mono hB1.size)
  clear h0 hW1 hb hb2 hB2
  go_wp2_with fail
  refine (KF.out _).mono ?_
  rintro e w3 ⟨rfl, hB3⟩
  have hBb : Below w.heap.size w w3 := hBa.trans (hB3.mono hBa.size)
  clear KF a0 a1 a2 hB3
  go_wp2_with fail
  refine (KP.out _ (hE.below hBb)).mono ?_
  rintro e w4 ⟨rfl, hB4⟩
  have hBc : Below w.heap.size w w4 := hBb.trans (hB4.mono hBb.size)
  clear KP hB4
  go_wp2_with fail
  go_ret
  exact ⟨rfl, hBc⟩

set_option maxRecDepth 100000 in
set_option maxHeartbeats 2000000 in
theorem finds_out (p q : ByteArray) (hs : p.size ≤ 140737488351232) (hq : p.extract 0 (min (p.size : Int) 300).toNat = q) (t : UInt8) (n : Nat) (i c : Int) (hi : i < 0 ∨ 511 < i ∨ c = 0) (B : List UInt8) (hB : putHL q.data.toList t n = some B)
    (w : World) {ea : Addr} (hE : PathErr w ea) :
    Calls Tryz.prog 5 #[headV p t.toNat n, .int .i64 i, .int .u8 c] w fun e w' => e = .returned (.bool true) ∧ Below w.heap.size w w' := by
  obtain ⟨W1, hW1⟩ : ∃ W1, W1 = w.alloc (.cells #[.string p, .int .u8 t.toNat, .int .u64 n] 25) := ⟨_, rfl⟩
  have hb : W1.heap[w.heap.size]? = some (.cells #[.string p, .int .u8 t.toNat, .int .u64 n] 25 (0, 0)) := by rw [hW1]; exact World.alloc_heap_new w _
  have hB1 : Below w.heap.size w W1 := by rw [hW1]; exact (Below.refl _ w).alloc (Nat.le_refl _) _
  have h0 := Lib.hid (shown_true W1 (hE.below hB1))
  have KF := Lib.hid fun W => Few_any p q hs hq t.toNat n W
  have hqs : q.size ≤ 300 := by rw [← hq, ByteArray.size_extract]; omega
  have KP := fun W h => PutH_any q (by omega) t n W (ea := ea) h
  rw [hB] at KP
  simp only [PutRes] at KP
  replace KP := Lib.hid KP
  have kz := lt_block hb
  unfold headV at *
  generalize (⟨B.toArray⟩ : ByteArray) = bs at *
  by_cases h1 : i < 0
  · have e1 : (i < 0) = True := by simp [h1]
    clear hi h1
    go_enter Tryz.func5, Tryz.ntmps5
    go_wp2_with fail
    rw [← hW1]
    refine h0.out.mono ?_
    rintro e w2 ⟨rfl, hB2⟩
    have hb2 := (hB2.block _ kz).trans hb
    have a0 : w2.cell? ⟨w.heap.size, 0, none⟩ = some (.string p) := by simp [World.cell?, hb2]
    have a1 : w2.cell? ⟨w.heap.size, 1, none⟩ = some (.int .u8 t.toNat) := by simp [World.cell?, hb2]
    have a2 : w2.cell? ⟨w.heap.size, 2, none⟩ = some (.int .u64 n) := by simp [World.cell?, hb2]
    have hBa : Below w.heap.size w w2 := hB1.trans (hB2.mono hB1.size)
    clear h0 hW1 hb hb2 hB2
    go_wp2_with fail
    refine (KF.out _).mono ?_
    rintro e w3 ⟨rfl, hB3⟩
    have hBb : Below w.heap.size w w3 := hBa.trans (hB3.mono hBa.size)
    clear KF a0 a1 a2 hB3
    go_wp2_with fail
    refine (KP.out _ (hE.below hBb)).mono ?_
    rintro e w4 ⟨rfl, hB4⟩
    have hBc : Below w.heap.size w w4 := hBb.trans (hB4.mono hBb.size)
    clear KP hB4
    go_wp2_with fail
    go_ret
    exact ⟨rfl, hBc⟩
  · have e1 : (i < 0) = False := by simp; omega
    by_cases h2 : 511 < i
    · have e2 : (511 < i) = True := by simp [h2]
      clear hi h1 h2
      go_enter Tryz.func5, Tryz.ntmps5
      go_wp2_with fail
      rw [← hW1]
      refine h0.out.mono ?_
      rintro e w2 ⟨rfl, hB2⟩
      have hb2 := (hB2.block _ kz).trans hb
      have a0 : w2.cell? ⟨w.heap.size, 0, none⟩ = some (.string p) := by simp [World.cell?, hb2]
      have a1 : w2.cell? ⟨w.heap.size, 1, none⟩ = some (.int .u8 t.toNat) := by simp [World.cell?, hb2]
      have a2 : w2.cell? ⟨w.heap.size, 2, none⟩ = some (.int .u64 n) := by simp [World.cell?, hb2]
      have hBa : Below w.heap.size w w2 := hB1.trans (hB2.mono hB1.size)
      clear h0 hW1 hb hb2 hB2
      go_wp2_with fail
      refine (KF.out _).mono ?_
      rintro e w3 ⟨rfl, hB3⟩
      have hBb : Below w.heap.size w w3 := hBa.trans (hB3.mono hBa.size)
      clear KF a0 a1 a2 hB3
      go_wp2_with fail
      refine (KP.out _ (hE.below hBb)).mono ?_
      rintro e w4 ⟨rfl, hB4⟩
      have hBc : Below w.heap.size w w4 := hBb.trans (hB4.mono hBb.size)
      clear KP hB4
      go_wp2_with fail
      go_ret
      exact ⟨rfl, hBc⟩
    · have e2 : (511 < i) = False := by simp; omega
      obtain rfl : c = 0 := by omega
      clear hi h1 h2
      go_enter Tryz.func5, Tryz.ntmps5
      go_wp2_with fail
      rw [← hW1]
      refine h0.out.mono ?_
      rintro e w2 ⟨rfl, hB2⟩
      have hb2 := (hB2.block _ kz).trans hb
      have a0 : w2.cell? ⟨w.heap.size, 0, none⟩ = some (.string p) := by simp [World.cell?, hb2]
      have a1 : w2.cell? ⟨w.heap.size, 1, none⟩ = some (.int .u8 t.toNat) := by simp [World.cell?, hb2]
      have a2 : w2.cell? ⟨w.heap.size, 2, none⟩ = some (.int .u64 n) := by simp [World.cell?, hb2]
      have hBa : Below w.heap.size w w2 := hB1.trans (hB2.mono hB1.size)
      clear h0 hW1 hb hb2 hB2
      go_wp2_with fail
      refine (KF.out _).mono ?_
      rintro e w3 ⟨rfl, hB3⟩
      have hBb : Below w.heap.size w w3 := hBa.trans (hB3.mono hBa.size)
      clear KF a0 a1 a2 hB3
      go_wp2_with fail
      refine (KP.out _ (hE.below hBb)).mono ?_
      rintro e w4 ⟨rfl, hB4⟩
      have hBc : Below w.heap.size w w4 := hBb.trans (hB4.mono hBb.size)
      clear KP hB4
      go_wp2_with fail
      go_ret
      exact ⟨rfl, hBc⟩

theorem u8_byte {x : Int} (h : (Lit.int .u8 x).wf = true) : ∃ b : UInt8, x = (b.toNat : Int) := by
  have h2 : 0 ≤ x ∧ x ≤ 255 := by simpa [Lit.wf, IntKind.min, IntKind.max, IntKind.signed, IntKind.bits] using h
  refine ⟨UInt8.ofNat x.toNat, ?_⟩
  rw [UInt8.toNat_ofNat']
  omega

theorem HeaderFinds_law (p : ByteArray) (t n i c : Int) (hs : p.size ≤ 140737488351232) (ht : (Lit.int .u8 t).wf = true) (hn : (Lit.int .u64 n).wf = true) (_ : (Lit.int .i64 i).wf = true) (hc : (Lit.int .u8 c).wf = true) (w : World) {ea : Addr} (hE : PathErr w ea) (hT : ErrType w) :
    Calls Tryz.prog 5 #[.agg #[.string p, .int .u8 t, .int .u64 n], .int .i64 i, .int .u8 c] w fun e w' => e = .returned (.bool true) ∧ Below w.heap.size w w' := by
  obtain ⟨n, rfl, hn'⟩ := u64_nat hn
  obtain ⟨t, rfl⟩ := u8_byte ht
  obtain ⟨q, hq⟩ : ∃ q, p.extract 0 (min (p.size : Int) 300).toNat = q := ⟨_, rfl⟩
  cases hB : putHL q.data.toList t n with
  | none => exact finds_none p q hs hq t n i c hB w hE
  | some B =>
    by_cases hi : i < 0 ∨ 511 < i ∨ c = 0
    · exact finds_out p q hs hq t n i c hi B hB w hE
    · obtain ⟨c, rfl⟩ := u8_byte hc
      obtain ⟨i, rfl⟩ : ∃ k : Nat, i = k := ⟨i.toNat, by omega⟩
      have hB2 := hB
      unfold putHL at hB
      cases hh : headL q.data.toList t n with
      | none => rw [hh] at hB; cases hB
      | some pn =>
        obtain ⟨pre, name⟩ := pn
        rw [hh] at hB
        have e : summedL (flatW wids (textsL pre (if t = 53 then name ++ [47] else name) (if t = 53 then 493 else 420) n t [])) = B := Option.some.inj hB
        exact finds_hit p q hs hq t n i (by omega) c (fun h => hi (by rw [h]; exact .inr (.inr rfl))) _ B (by rw [flatW_length _ _ (texts_fit hh)]; rfl) e hB2 w hE hT
end Go.Proofs.YtkfaejnpgdbhlaaGreatDoor
