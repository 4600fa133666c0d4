/-
  The statement HeaderFields: a head's block, its fields. Its walk.
-/
import Derived.Test.YtkfaejnpgdbhlaaGreatDoorHeadGets
import Derived.Deep.QuietTactic
import Derived.BigQuiet
namespace Go.Proofs.YtkfaejnpgdbhlaaGreatDoor
open Go.RowKit

set_option maxRecDepth 100000 in
theorem IsZero_no (s : ByteArray) (hs : s.size = 512) (h : Lib.trimB s.data.toList 0 ≠ []) (w : World) :
    Calls Tryz.prog 23 #[.string s] w fun e w' => e = .returned (.bool false) ∧ ∃ m, w' = w.drewN m := by
  have K := Lib.hid (Tryz.strings_Trim_one s 0 (by decide) w (by omega))
  obtain ⟨t, ht⟩ : ∃ t : ByteArray, (⟨(Lib.trimB s.data.toList 0).toArray⟩ : ByteArray) = t := ⟨_, rfl⟩
  rw [ht] at K
  have hne : (t.toList == []) = false := by rw [toList_data, ← ht]; simpa using h
  have hsz : (s.size : Int) = 512 := by omega
  clear ht h
  go_enter Tryz.func23, Tryz.ntmps23
  go_wp2_with fail
  refine K.out.mono ?_
  rintro e w1 ⟨rfl, hw⟩
  go_wp2_with fail
  go_ret
  refine ⟨rfl, ?_⟩
  rcases hw with rfl | rfl
  · exact ⟨0, rfl⟩
  · exact ⟨1, rfl⟩

/-- The eleven digits of a size. -/
theorem field_digits {n : Nat} (hn : n ≤ 8589934591) : ∃ D : List Nat, D.length = 11 ∧ (∀ d ∈ D, d < 8) ∧ fieldL 11 n = D.map (fun d => UInt8.ofNat (48 + d)) ∧ value 8 0 D = n := by
  have hl : (putL 8 n).length ≤ 11 := put_small (k := 10) (by omega)
  have hlt : ∀ d ∈ dig 8 n, d < 8 := dig_lt (by omega) n
  have hpl : (putL 8 n).length = (dig 8 n).length := by rw [putL_dig, List.length_map]
  have hval : ∀ k, value 8 0 (List.replicate k 0) = 0 := by
    intro k
    induction k with
    | zero => rfl
    | succ k ih => rw [List.replicate_succ]; exact ih
  refine ⟨List.replicate (11 - (dig 8 n).length) 0 ++ dig 8 n, ?_, ?_, ?_, ?_⟩
  · rw [List.length_append, List.length_replicate]; omega
  · intro d hd
    rcases List.mem_append.1 hd with h | h
    · rw [(List.mem_replicate.1 h).2]; omega
    · exact hlt d h
  · unfold fieldL
    rw [List.map_append, List.map_replicate, hpl]
    congr 1
    rw [putL_dig]
    refine List.map_congr_left fun d hd => ?_
    have := hlt d hd
    unfold code
    rw [if_pos (by omega)]
  · rw [value_append, hval, dig_value (by omega)]

theorem value_snoc (b : Nat) (D : List Nat) (k : Nat) (h : k < D.length) : value b 0 (D.take (k + 1)) = b * value b 0 (D.take k) + D[k] := by
  rw [List.take_succ_eq_append_getElem h, value_append]
  rfl

/-- What the fields of a head's block hold. -/
theorem block_facts {p b : List UInt8} {t : UInt8} {n : Nat} (h : putHL p t n = some b) :
    n ≤ 8589934591 ∧ fieldOf b 124 11 = fieldL 11 n ∧ fieldOf b 257 5 = [117, 115, 116, 97, 114] ∧ Lib.trimB b 0 ≠ [] := by
  cases hh : headL p t n with
  | none => unfold putHL at h; rw [hh] at h; cases h
  | some pn =>
    obtain ⟨pre, nm0⟩ := pn
    rw [putHL_some hh] at h
    have hfit := texts_fit hh
    obtain ⟨hsp, _, hn⟩ := headL_some hh
    obtain ⟨nm, hnm⟩ : ∃ nm, (if t = 53 then nm0 ++ [47] else nm0) = nm := ⟨_, rfl⟩
    obtain ⟨mode, hm⟩ : ∃ mode, (if t = 53 then 493 else 420) = mode := ⟨_, rfl⟩
    rw [hnm, hm] at h hfit
    obtain ⟨l, hl⟩ : ∃ l, flatW wids (textsL pre nm mode n t []) = l := ⟨_, rfl⟩
    have hll : l.length = 512 := by rw [← hl, flatW_length _ _ hfit]; rfl
    rw [hl] at h
    cases h
    obtain ⟨s1, s2, s3⟩ := summed_parts hll
    have F : ∀ i (hi : i < 15), fieldOf l (wids.take i).sum (wids.getD i 0) = (textsL pre nm mode n t [])[i]'(by exact hi) ++ List.replicate (wids.getD i 0 - ((textsL pre nm mode n t [])[i]'(by exact hi)).length) 0 := fun i hi => by
      unfold fieldOf; rw [← hl]; exact flatW_field wids _ i hfit hi
    have f4 : fieldOf (summedL l) 124 11 = fieldL 11 n := by
      have e : fieldOf (summedL l) 124 11 = fieldOf l 124 11 := by
        unfold fieldOf
        have := congrArg (fun x => (x.drop 124).take 11) s1
        simpa [List.drop_take, List.take_take] using this
      rw [e]
      have := F 4 (by omega)
      simp only [wids, List.take_succ_cons, List.take_zero, List.sum_cons, List.sum_nil, Nat.reduceAdd, textsL] at this
      simp at this
      have hfl : (fieldL 11 n).length = 11 := fieldL_length (put_small (k := 10) (by omega))
      unfold fieldOf at this ⊢
      have h2 := congrArg (List.take 11) this
      rw [List.take_take] at h2
      rw [show min 11 12 = 11 from rfl] at h2
      rw [h2]
      exact List.take_left' hfl
    have f9 : fieldOf (summedL l) 257 5 = [117, 115, 116, 97, 114] := by
      have e : fieldOf (summedL l) 257 8 = fieldOf l 257 8 := by
        unfold fieldOf
        have := congrArg (List.drop (257 - 156)) s3
        rw [List.drop_drop, List.drop_drop] at this
        rw [show 156 + (257 - 156) = 257 from rfl] at this
        rw [this]
      have := F 9 (by omega)
      simp only [wids, List.take_succ_cons, List.take_zero, List.sum_cons, List.sum_nil, Nat.reduceAdd, textsL] at this
      simp [magicL] at this
      rw [this] at e
      unfold fieldOf at e ⊢
      have h2 := congrArg (List.take 5) e
      rw [List.take_take] at h2
      simpa using h2
    refine ⟨hn, f4, f9, fun hz => ?_⟩
    -- the 257th byte is no zero
    have hm : (117 : UInt8) ∈ summedL l := by
      have h1 : (117 : UInt8) ∈ fieldOf (summedL l) 257 5 := by rw [f9]; simp
      exact List.mem_of_mem_drop (List.mem_of_mem_take h1)
    have dz : ∀ (r : List UInt8), r.dropWhile (· == (0 : UInt8)) = [] → ∀ x ∈ r, x = 0 := by
      intro r
      induction r with
      | nil => intro _ x hx; simp at hx
      | cons a r ih =>
        intro h x hx
        by_cases ha : a = 0
        · rw [List.dropWhile_cons_of_pos (by simpa using ha)] at h
          rcases List.mem_cons.1 hx with e | e
          · rw [e]; exact ha
          · exact ih h x e
        · rw [List.dropWhile_cons_of_neg (by simpa using ha)] at h
          cases h
    unfold Lib.trimB Lib.trimLeftB at hz
    have h2 : ∀ x ∈ Lib.trimRightB (summedL l) 0, x = 0 := dz _ hz
    have h3 : (117 : UInt8) ∈ Lib.trimRightB (summedL l) 0 := by
      unfold Lib.trimRightB
      rw [List.mem_reverse]
      have : ∀ (r : List UInt8), (117 : UInt8) ∈ r → (117 : UInt8) ∈ r.dropWhile (· == 0) := by
        intro r
        induction r with
        | nil => intro h; exact h
        | cons a r ih =>
          intro h
          by_cases ha : a = 0
          · rw [List.dropWhile_cons_of_pos (by simpa using ha)]
            rcases List.mem_cons.1 h with e | e
            · rw [ha] at e; exact absurd e (by decide)
            · exact ih e
          · rw [List.dropWhile_cons_of_neg (by simpa using ha)]
            exact h
      exact this _ (by rw [List.mem_reverse]; exact hm)
    exact absurd (h2 _ h3) (by decide)

set_option maxRecDepth 100000 in
set_option maxHeartbeats 2000000 in
theorem fields_hit (p q : ByteArray) (hs : p.size ≤ 140737488351232) (hq : p.extract 0 (min (p.size : Int) 300).toNat = q) (t : UInt8) (n : Nat) (B : List UInt8) (hB : putHL q.data.toList t n = some B)
    (w : World) {ea a1 a2 : Addr} (hE : PathErr w ea) (hN : NumErrs w a1 a2) (hT : ErrType w) :
    Calls Tryz.prog 10 #[headV p t.toNat n] w fun e w' => e = .returned (.bool true) ∧ Below w.heap.size w w' := by
  obtain ⟨W1, hW1⟩ : ∃ W1, W1 = w.alloc (.cells #[.string p, .int .u8 t.toNat, .int .u64 n] 25) := ⟨_, rfl⟩
  have hb : W1.heap[w.heap.size]? = some (.cells #[.string p, .int .u8 t.toNat, .int .u64 n] 25 (0, 0)) := by rw [hW1]; exact World.alloc_heap_new w _
  have hB1 : Below w.heap.size w W1 := by rw [hW1]; exact (Below.refl _ w).alloc (Nat.le_refl _) _
  have h0 := Lib.hid (shown_true W1 (hE.below hB1))
  have KF := Lib.hid fun W => Few_any p q hs hq t.toNat n W
  have hqs : q.size ≤ 300 := by rw [← hq, ByteArray.size_extract]; omega
  have KP := fun W h => PutH_any q (by omega) t n W (ea := ea) h
  rw [hB] at KP
  have hBl := putHL_len hB
  obtain ⟨bs, hbs⟩ : ∃ bs : ByteArray, (⟨B.toArray⟩ : ByteArray) = bs := ⟨_, rfl⟩
  simp only [PutRes, hbs] at KP
  replace KP := Lib.hid KP
  have hbz : bs.size = 512 := by rw [← hbs]; exact hBl
  have hbd : bs.data.toList = B := by rw [← hbs]
  have KS := fun W => HSum_ok bs hbz W
  obtain ⟨sm, hsm⟩ : ∃ sm, sumX bs.data.toList = sm := ⟨_, rfl⟩
  have hsm0 : 0 < sm := by rw [← hsm]; unfold sumX; omega
  rw [hsm] at KS
  replace KS := Lib.hid KS
  have KG := fun W h1 h2 h3 => Get_own q t n B hB bs (by omega) (by rw [hbd, List.take_of_length_le (by omega)]) W (ea := ea) (a1 := a1) (a2 := a2) h1 h2 h3
  obtain ⟨hn33, f4, f9, hz⟩ := block_facts hB
  obtain ⟨_, f7, _⟩ := parse_back hB
  have KZ := Lib.hid fun W => IsZero_no bs hbz (by rw [hbd]; exact hz) W
  obtain ⟨D, hDl, hD8, hDf, hDv⟩ := field_digits hn33
  rw [hDf] at f4
  have hdig : ∀ k (hk : k < 11), (bs[124 + k]'(by omega)).toNat = 48 + D[k]'(by omega) := fun k hk => by
    have e1 : (fieldOf B 124 11)[k]? = some (bs[124 + k]'(by omega)) := by
      unfold fieldOf
      rw [List.getElem?_take_of_lt hk, List.getElem?_drop, ← hbd, Array.getElem?_toList]
      exact Array.getElem?_eq_getElem _
    rw [f4] at e1
    have hd := hD8 _ (List.getElem_mem (show k < D.length by omega))
    rw [List.getElem?_map, List.getElem?_eq_getElem (show k < D.length by omega)] at e1
    have e2 := Option.some.inj e1
    rw [← e2, UInt8.toNat_ofNat']
    omega
  have hix : (bs[156]'(by omega)) = t := by
    rw [← f7, ← hbd]
    have h2 : 156 < bs.data.toList.length := by simpa using (show 156 < bs.size by omega)
    rw [List.getD_eq_getElem?_getD, List.getElem?_eq_getElem h2]
    simp
    rfl
  obtain ⟨us, hus⟩ : ∃ us, bs.extract 257 262 = us := ⟨_, rfl⟩
  have hcmp : us = ⟨#[117, 115, 116, 97, 114]⟩ := by
    rw [← hus]
    apply ByteArray.ext
    apply Array.toList_inj.1
    rw [sub_list, List.drop_take, hbd]
    exact f9
  subst hcmp
  have hszi : (bs.size : Int) = 512 := by omega
  have kz := lt_block hb
  clear hBl hbs hsm f4 f9 f7 hz hDf hB
  unfold headV at *
  replace KG := Lib.hid KG
  go_enter Tryz.func10, Tryz.ntmps10
  go_wp2_with fail
  rw [← hW1]
  refine h0.out.mono ?_
  rintro e w2 ⟨rfl, hB2⟩
  have hb2 := (hB2.block _ kz).trans hb
  have a0 : w2.cell? ⟨w.heap.size, 0, none⟩ = some (.string p) := by simp [World.cell?, hb2]
  have a1' : w2.cell? ⟨w.heap.size, 1, none⟩ = some (.int .u8 t.toNat) := by simp [World.cell?, hb2]
  have a2' : w2.cell? ⟨w.heap.size, 2, none⟩ = some (.int .u64 n) := by simp [World.cell?, hb2]
  have hBa : Below w.heap.size w w2 := hB1.trans (hB2.mono hB1.size)
  clear h0 hW1 hb hB2
  go_wp2_with fail
  refine (KF.out _).mono ?_
  rintro e w3 ⟨rfl, hB3⟩
  have hBb : Below w.heap.size w w3 := hBa.trans (hB3.mono hBa.size)
  have hb3 := (hB3.block _ (lt_block hb2)).trans hb2
  have f0 : w3.frozen? ⟨w.heap.size, 0, none⟩ = false := by simp [World.frozen?, hb3]
  have f1 : w3.frozen? ⟨w.heap.size, 1, none⟩ = false := by simp [World.frozen?, hb3]
  have f2 : w3.frozen? ⟨w.heap.size, 2, none⟩ = false := by simp [World.frozen?, hb3]
  have g0 : w3.cell? ⟨w.heap.size, 0, none⟩ = some (.string p) := by simp [World.cell?, hb3]
  have g1 : w3.cell? ⟨w.heap.size, 1, none⟩ = some (.int .u8 t.toNat) := by simp [World.cell?, hb3]
  have g2 : w3.cell? ⟨w.heap.size, 2, none⟩ = some (.int .u64 n) := by simp [World.cell?, hb3]
  clear KF a0 a1' a2' hB3 hb2 hBa
  go_wp2_with fail
  have hb4 : (((w3.setCell ⟨w.heap.size, 0, none⟩ (.string q)).setCell ⟨w.heap.size, 1, none⟩ (.int .u8 t.toNat)).setCell ⟨w.heap.size, 2, none⟩ (.int .u64 n)).heap[w.heap.size]? = some (.cells #[.string q, .int .u8 t.toNat, .int .u64 n] 25 (0, 0)) :=
    cells_set (i := 2) (cells_set (i := 1) (cells_set (i := 0) hb3))
  have hB4 : Below w.heap.size w (((w3.setCell ⟨w.heap.size, 0, none⟩ (.string q)).setCell ⟨w.heap.size, 1, none⟩ (.int .u8 t.toNat)).setCell ⟨w.heap.size, 2, none⟩ (.int .u64 n)) :=
    ((hBb.setCell (p := ⟨w.heap.size, 0, none⟩) (Nat.le_refl _) _).setCell (p := ⟨w.heap.size, 1, none⟩) (Nat.le_refl _) _).setCell (p := ⟨w.heap.size, 2, none⟩) (Nat.le_refl _) _
  generalize ((w3.setCell ⟨w.heap.size, 0, none⟩ (.string q)).setCell ⟨w.heap.size, 1, none⟩ (.int .u8 t.toNat)).setCell ⟨w.heap.size, 2, none⟩ (.int .u64 n) = W4 at *
  clear f0 f1 f2 g0 g1 g2 hb3 hBb
  refine (KP.out _ (hE.below hB4)).mono ?_
  rintro e w5 ⟨rfl, hB5⟩
  have hb5 := (hB5.block _ (lt_block hb4)).trans hb4
  have hBc : Below w.heap.size w w5 := bthen hB4 hB5
  clear KP hB5 hb4 hB4
  go_wp2_with fail
  refine (KS.out _).mono ?_
  rintro e w6 ⟨rfl, hB6⟩
  have hb6 := (hB6.block _ (lt_block hb5)).trans hb5
  have hBd : Below w.heap.size w w6 := bthen hBc hB6
  clear KS hB6 hb5 hBc
  go_wp2_with fail
  refine (KG.out _ (hE.below hBd) (hN.below hBd) (hT.below hBd)).mono ?_
  rintro e w7 ⟨rfl, hB7⟩
  have hb7 := (hB7.block _ (lt_block hb6)).trans hb6
  have hBe : Below w.heap.size w w7 := bthen hBd hB7
  clear KG hB7 hb6 hBd
  go_wp2_with fail
  obtain ⟨W8, hW8⟩ : ∃ W8, W8 = w7.alloc (.cells #[.string q, .int .u8 t.toNat, .int .u64 n] 25) := ⟨_, rfl⟩
  rw [← hW8]
  have hx8 : W8.heap[w7.heap.size]? = some (.cells #[.string q, .int .u8 t.toNat, .int .u64 n] 25 (0, 0)) := by rw [hW8]; exact World.alloc_heap_new w7 _
  have hb8 : W8.heap[w.heap.size]? = some (.cells #[.string q, .int .u8 t.toNat, .int .u64 n] 25 (0, 0)) := by rw [hW8]; exact old_at hb7
  have hB8 : Below w.heap.size w W8 := by rw [hW8]; exact hBe.alloc hBe.size _
  clear hW8 hb7 hBe
  go_loop [11, 12] (fun m i => ∃ j : Nat, 124 ≤ j ∧ j ≤ 135 ∧ i = .int .i64 j ∧ m = .int .u64 (value 8 0 (D.take (j - 124)) : Nat)) (fun _ i => 200 - (intOf i).toNat)
  case atStart => exact ⟨124, by omega, by omega, rfl, rfl⟩
  case round =>
    obtain ⟨j, hj1, hj2, rfl, rfl⟩ := hrel
    by_cases hlt : j < 135
    · have hjb : j < bs.size := by omega
      obtain ⟨k, hk⟩ : ∃ k, k = j - 124 := ⟨_, rfl⟩
      have hkD : k < D.length := by omega
      have hd : (bs[j]'hjb).toNat = 48 + D[k]'hkD := by
        have := hdig k (by omega)
        rw [← this]
        congr 2
        omega
      have hd8 := hD8 _ (List.getElem_mem hkD)
      have hv := value_snoc 8 D k hkD
      have hvl := value_lt (b := 8) (D.take k) (fun d h => hD8 d (List.mem_of_mem_take h))
      have hle : 8 ^ (D.take k).length ≤ 8 ^ 11 := Nat.pow_le_pow_right (by omega) (by rw [List.length_take]; omega)
      rw [← hk]
      obtain ⟨d, hdd⟩ : ∃ d, D[k]'hkD = d := ⟨_, rfl⟩
      rw [hdd] at hd hd8 hv
      obtain ⟨S, hS⟩ : ∃ S, value 8 0 (D.take k) = S := ⟨_, rfl⟩
      rw [hS] at hv hvl ⊢
      have hS2 : S < 8589934592 := by omega
      have hrel : Hid (value 8 0 (D.take (j + 1 - 124)) = 8 * S + d) := by
        rw [show j + 1 - 124 = k + 1 by omega]; exact Lib.hid hv
      have hw1 : IntKind.u8.wrap (((bs[j]'hjb).toNat : Int) - 48) = d := by rw [hd, IntKind.wrap_u8]; omega
      have hc1 : (j : Int) < 135 := by omega
      have hc2 : (j : Int) < bs.size := by omega
      clear hv hvl hle hdd hS hk hkD hdig hD8 hd
      go_wp2_with fail
      go_round
      case rel => exact ⟨j + 1, by omega, by omega, by go_num, by rw [hrel.out]; go_num⟩
      case measure => simp [intOf]; omega
    · obtain rfl : j = 135 := by omega
      have hv : value 8 0 (D.take (135 - 124)) = n := by rw [List.take_of_length_le (by omega)]; exact hDv
      rw [hv]
      clear hv
      have x0 : W8.cell? ⟨w7.heap.size, 0, none⟩ = some (.string q) := by simp [World.cell?, hx8]
      have x1 : W8.cell? ⟨w7.heap.size, 1, none⟩ = some (.int .u8 t.toNat) := by simp [World.cell?, hx8]
      have x2 : W8.cell? ⟨w7.heap.size, 2, none⟩ = some (.int .u64 n) := by simp [World.cell?, hx8]
      have c0 : W8.cell? ⟨w.heap.size, 0, none⟩ = some (.string q) := by simp [World.cell?, hb8]
      have c1 : W8.cell? ⟨w.heap.size, 1, none⟩ = some (.int .u8 t.toNat) := by simp [World.cell?, hb8]
      have c2 : W8.cell? ⟨w.heap.size, 2, none⟩ = some (.int .u64 n) := by simp [World.cell?, hb8]
      clear hdig hD8 hDv hDl
      go_wp2_with fail
      go_quiet ((go_at_call 23; exact Calls.quiet_of (KZ.out _)))
      go_wp2_with fail
      go_ret
      exact ⟨rfl, below_drewN hB8 _⟩

set_option maxRecDepth 100000 in
set_option maxHeartbeats 2000000 in
theorem fields_none (p q : ByteArray) (hs : p.size ≤ 140737488351232) (hq : p.extract 0 (min (p.size : Int) 300).toNat = q) (t : UInt8) (n : Nat) (hB : putHL q.data.toList t n = none)
    (w : World) {ea : Addr} (hE : PathErr w ea) :
    Calls Tryz.prog 10 #[headV p t.toNat n] w fun e w' => e = .returned (.bool true) ∧ Below w.heap.size w w' := by
  obtain ⟨W1, hW1⟩ : ∃ W1, W1 = w.alloc (.cells #[.string p, .int .u8 t.toNat, .int .u64 n] 25) := ⟨_, rfl⟩
  have hb : W1.heap[w.heap.size]? = some (.cells #[.string p, .int .u8 t.toNat, .int .u64 n] 25 (0, 0)) := by rw [hW1]; exact World.alloc_heap_new w _
  have hB1 : Below w.heap.size w W1 := by rw [hW1]; exact (Below.refl _ w).alloc (Nat.le_refl _) _
  have h0 := Lib.hid (shown_true W1 (hE.below hB1))
  have KF := Lib.hid fun W => Few_any p q hs hq t.toNat n W
  have hqs : q.size ≤ 300 := by rw [← hq, ByteArray.size_extract]; omega
  have KP := fun W h => PutH_any q (by omega) t n W (ea := ea) h
  rw [hB] at KP
  simp only [PutRes] at KP
  replace KP := Lib.hid KP
  have kz := lt_block hb
  unfold headV at *
  go_enter Tryz.func10, Tryz.ntmps10
  go_wp2_with fail
  rw [← hW1]
  refine h0.out.mono ?_
  rintro e w2 ⟨rfl, hB2⟩
  have hb2 := (hB2.block _ kz).trans hb
  have a0 : w2.cell? ⟨w.heap.size, 0, none⟩ = some (.string p) := by simp [World.cell?, hb2]
  have a1' : w2.cell? ⟨w.heap.size, 1, none⟩ = some (.int .u8 t.toNat) := by simp [World.cell?, hb2]
  have a2' : w2.cell? ⟨w.heap.size, 2, none⟩ = some (.int .u64 n) := by simp [World.cell?, hb2]
  have hBa : Below w.heap.size w w2 := hB1.trans (hB2.mono hB1.size)
  clear h0 hW1 hb hB2
  go_wp2_with fail
  refine (KF.out _).mono ?_
  rintro e w3 ⟨rfl, hB3⟩
  have hBb : Below w.heap.size w w3 := hBa.trans (hB3.mono hBa.size)
  have hb3 := (hB3.block _ (lt_block hb2)).trans hb2
  have f0 : w3.frozen? ⟨w.heap.size, 0, none⟩ = false := by simp [World.frozen?, hb3]
  have f1 : w3.frozen? ⟨w.heap.size, 1, none⟩ = false := by simp [World.frozen?, hb3]
  have f2 : w3.frozen? ⟨w.heap.size, 2, none⟩ = false := by simp [World.frozen?, hb3]
  have g0 : w3.cell? ⟨w.heap.size, 0, none⟩ = some (.string p) := by simp [World.cell?, hb3]
  have g1 : w3.cell? ⟨w.heap.size, 1, none⟩ = some (.int .u8 t.toNat) := by simp [World.cell?, hb3]
  have g2 : w3.cell? ⟨w.heap.size, 2, none⟩ = some (.int .u64 n) := by simp [World.cell?, hb3]
  clear KF a0 a1' a2' hB3 hb2 hBa
  go_wp2_with fail
  have hB4 : Below w.heap.size w (((w3.setCell ⟨w.heap.size, 0, none⟩ (.string q)).setCell ⟨w.heap.size, 1, none⟩ (.int .u8 t.toNat)).setCell ⟨w.heap.size, 2, none⟩ (.int .u64 n)) :=
    ((hBb.setCell (p := ⟨w.heap.size, 0, none⟩) (Nat.le_refl _) _).setCell (p := ⟨w.heap.size, 1, none⟩) (Nat.le_refl _) _).setCell (p := ⟨w.heap.size, 2, none⟩) (Nat.le_refl _) _
  generalize ((w3.setCell ⟨w.heap.size, 0, none⟩ (.string q)).setCell ⟨w.heap.size, 1, none⟩ (.int .u8 t.toNat)).setCell ⟨w.heap.size, 2, none⟩ (.int .u64 n) = W4 at *
  clear f0 f1 f2 g0 g1 g2 hb3 hBb
  refine (KP.out _ (hE.below hB4)).mono ?_
  rintro e w5 ⟨rfl, hB5⟩
  have hBc : Below w.heap.size w w5 := bthen hB4 hB5
  clear KP hB5 hB4
  go_wp2_with fail
  go_ret
  exact ⟨rfl, hBc⟩

theorem u8_byte2 {x : Int} (h : (Lit.int .u8 x).wf = true) : ∃ b : UInt8, x = (b.toNat : Int) := by
  have h2 : 0 ≤ x ∧ x ≤ 255 := by simpa [Lit.wf, IntKind.min, IntKind.max, IntKind.signed, IntKind.bits] using h
  refine ⟨UInt8.ofNat x.toNat, ?_⟩
  rw [UInt8.toNat_ofNat']
  omega

theorem HeaderFields_law (p : ByteArray) (t n : Int) (hs : p.size ≤ 140737488351232) (ht : (Lit.int .u8 t).wf = true) (hn : (Lit.int .u64 n).wf = true) (w : World) {ea a1 a2 : Addr} (hE : PathErr w ea) (hT : ErrType w) (hN : NumErrs w a1 a2) :
    Calls Tryz.prog 10 #[.agg #[.string p, .int .u8 t, .int .u64 n]] w fun e w' => e = .returned (.bool true) ∧ Below w.heap.size w w' := by
  obtain ⟨n, rfl, _⟩ := u64_nat hn
  obtain ⟨t, rfl⟩ := u8_byte2 ht
  obtain ⟨q, hq⟩ : ∃ q, p.extract 0 (min (p.size : Int) 300).toNat = q := ⟨_, rfl⟩
  cases hB : putHL q.data.toList t n with
  | none => exact fields_none p q hs hq t n hB w hE
  | some B => exact fields_hit p q hs hq t n B hB w hE hN hT
end Go.Proofs.YtkfaejnpgdbhlaaGreatDoor
