/-
  header.Sum by contract, and header.Get where the sum is another one.
-/
import Derived.Test.YtkfaejnpgdbhlaaGreatDoorHeadAll
import Derived.Test.YtkfaejnpgdbhlaaGreatDoorAs
namespace Go.Proofs.YtkfaejnpgdbhlaaGreatDoor
open Go.RowKit

theorem conv_cells {W : World} {g n k cap : Nat} {l : List UInt8} (h : ∀ j (_ : j < l.length), W.cell? ⟨g, j, none⟩ = some (.int .u8 (l[j].toNat : Int))) (hk : n + k ≤ l.length) :
    (convert 35 9 (.slice (some ⟨g, n, none⟩) k cap)).run Tryz.prog W = .ok (.string ⟨((l.drop n).take k).toArray⟩) W := by
  have hl : ((l.drop n).take k).length = k := by rw [List.length_take, List.length_drop]; omega
  have := run_convert_bytes_back W 35 9 5 ⟨g, n, none⟩ cap ((l.drop n).take k) Tryz.underlying35 Tryz.underlying5 Tryz.underlying9 fun j hj => ?_
  · rwa [hl] at this
  · rw [hl] at hj
    have e : Addr.add ⟨g, n, none⟩ j = ⟨g, n + j, none⟩ := by simp only [Addr.add]; split <;> simp_all
    rw [e, h _ (by omega)]
    simp

set_option maxRecDepth 100000 in
set_option maxHeartbeats 1000000 in
theorem sum_gen (xb g cap : Nat) (l : List UInt8) (hl : l.length = 512) (hcap : 512 ≤ cap) (o : Obj) (ho : ∀ W : World, W.heap[g]? = some o → ∀ j (_ : j < l.length), W.cell? ⟨g, j, none⟩ = some (.int .u8 (l[j].toNat : Int))) (w : World)
    (hx : w.cell? ⟨xb, 0, none⟩ = some (.slice (some ⟨g, 0, none⟩) 512 cap)) (hrow : w.heap[g]? = some o) :
    Calls Tryz.prog 37 #[.pointer (some ⟨xb, 0, none⟩)] w fun e w' => e = .returned (.int .u64 (sumX l)) ∧ Below w.heap.size w w' := by
  obtain ⟨p, hp⟩ : ∃ p, (l.drop 148).take 8 = p := ⟨_, rfl⟩
  have hpl : p.length = 8 := by rw [← hp, List.length_take, List.length_drop]; omega
  have hc0 : ∀ W, W.heap[g]? = some o → (convert 35 9 (.slice (some ⟨g, 0, none⟩) 512 cap)).run Tryz.prog W = .ok (.string ⟨l.toArray⟩) W := fun W h => by
    have := conv_cells (n := 0) (k := 512) (cap := cap) (ho W h) (by omega)
    rwa [List.drop_zero, List.take_of_length_le (by omega)] at this
  have hc1 : ∀ W, W.heap[g]? = some o → (convert 35 9 (.slice (some ⟨g, 148, none⟩) 8 (cap - 148))).run Tryz.prog W = .ok (.string ⟨p.toArray⟩) W := fun W h => hp ▸ conv_cells (ho W h) (by omega)
  have K0 : Hid (∀ W, Calls Tryz.prog 60 #[.string ⟨l.toArray⟩] W fun e w' => e = .returned (.int .u64 (sumB l)) ∧ Below W.heap.size W w') := Lib.hid fun W => Sum_any ⟨l.toArray⟩ (by simp [ByteArray.size]; omega) W
  have K1 : Hid (∀ W, Calls Tryz.prog 60 #[.string ⟨p.toArray⟩] W fun e w' => e = .returned (.int .u64 (sumB p)) ∧ Below W.heap.size W w') := Lib.hid fun W => Sum_any ⟨p.toArray⟩ (by simp [ByteArray.size]; omega) W
  have K2 : Hid (∀ W, Calls Tryz.prog 60 #[.string ⟨#[32, 32, 32, 32, 32, 32, 32, 32]⟩] W fun e w' => e = .returned (.int .u64 256) ∧ Below W.heap.size W w') := Lib.hid fun W => Sum_any ⟨#[32, 32, 32, 32, 32, 32, 32, 32]⟩ (by simp [ByteArray.size]) W
  have hs1 := sumB_le l
  have hs2 : sumB p ≤ sumB l := by
    have e : l = l.take 148 ++ ((l.drop 148).take 8 ++ (l.drop 148).drop 8) := by rw [List.take_append_drop, List.take_append_drop]
    rw [hp] at e
    rw [e, sumB_append, sumB_append]; omega
  have E : Hid (((sumX l : Nat) : Int) = (sumB l : Int) - sumB p + 256) := Lib.hid (by unfold sumX; rw [hp]; omega)
  have hsub : IntKind.u64.wrap ((sumB l : Int) - sumB p) = (sumB l : Int) - sumB p := by rw [IntKind.wrap_u64]; omega
  have hadd : IntKind.u64.wrap ((sumB l : Int) - sumB p + 256) = (sumB l : Int) - sumB p + 256 := by rw [IntKind.wrap_u64]; omega
  have b1 : (156 : Int) ≤ cap := by omega
  have b2 : 156 ≤ cap := by omega
  have b3 : ¬ cap = 148 := by omega
  clear hp
  go_enter Tryz.func37, Tryz.ntmps37
  go_wp2
  go_region_held3 (fun w' => w'.cell? ⟨xb, 0, none⟩ = some (.slice (some ⟨g, 0, none⟩) 512 cap) ∧
     (convert 35 9 (.slice (some ⟨g, 0, none⟩) 512 cap)).run Tryz.prog w' = .ok (.string ⟨l.toArray⟩) w' ∧
     (convert 35 9 (.slice (some ⟨g, 148, none⟩) 8 (cap - 148))).run Tryz.prog w' = .ok (.string ⟨p.toArray⟩) w' ∧ w'.heap[g]? = some o ∧ Below w.heap.size w w')
    (first | exact ⟨hx, hc0 _ hrow, hc1 _ hrow, hrow, (Below.refl _ _).drew⟩ | exact ⟨t1, hc0 _ t4, hc1 _ t4, t4, t5⟩)
    (first | (go_at_call 60; (first | (go_at_call_of 60 p; refine (K1.out _).mono ?_) | (go_at_call_of 60 l; refine (K0.out _).mono ?_) | refine (K2.out _).mono ?_); rintro e w' ⟨rfl, hB⟩; rename_i hH _ _; obtain ⟨s1, _, _, s4, s5⟩ := hH; have t1 := (hB.cell (World.block_lt_of_cell? _ _ s1)).trans s1; have t4 := (hB.block _ (lt_block s4)).trans s4; have t5 := s5.trans (hB.mono s5.size)))
  go_wp2
  go_ret
  exact ⟨by rw [E.out]; rfl, t5⟩
end Go.Proofs.YtkfaejnpgdbhlaaGreatDoor

/-
  header.Sum for every text; header.Get where a block's sum is another one: by contract.
-/
namespace Go.Proofs.YtkfaejnpgdbhlaaGreatDoor
open Go.RowKit

set_option maxRecDepth 100000 in
theorem HSum_bad (s : ByteArray) (hs : ¬ s.size = 512) (_ : s.size ≤ 140737488351232) (w : World) :
    Calls Tryz.prog 20 #[.string s] w fun e w' => e = .returned (.tuple #[.int .u64 0, .int .i64 2]) ∧ Below w.heap.size w w' := by
  have h1 : ¬ (s.size : Int) = 512 := by omega
  have h2 : ((s.size : Int) == 512) = false := by simpa using h1
  go_enter Tryz.func20, Tryz.ntmps20
  go_wp2_with fail
  go_ret2
  exact ⟨rfl, Below.refl _ _⟩

theorem bytes_conv2 (s : ByteArray) (w : World) : ∃ (cap : Nat) (o : Obj),
    (convert 9 35 (.string s)).run Tryz.prog w = .ok (.slice (some ⟨w.heap.size, 0, none⟩) s.size cap) (w.drew.alloc o) ∧ s.size ≤ cap ∧
    (∀ (W : World) (g : Nat), W.heap[g]? = some o → ∀ j (_ : j < s.data.toList.length), W.cell? ⟨g, j, none⟩ = some (.int .u8 (s.data.toList[j].toNat : Int))) ∧
    (∀ (W : World) (g : Nat), W.heap[g]? = some o → ∀ j, j < s.size → W.frozen? ⟨g, j, none⟩ = false) := by
  refine ⟨_, _, run_bytes_of_string w 9 35 5 s Tryz.underlying9 Tryz.underlying35 Tryz.underlying5, grownCap_ge _ _ _ _, fun W g h j hj => ?_, fun W g h j hj => ?_⟩
  · have hj' : j < s.data.size := by simpa using hj
    simp only [World.cell?, h, bytesRow]
    rw [Array.getElem?_append_left (by simpa using hj')]
    simp
    exact ⟨s.data[j], Array.getElem?_eq_getElem hj', rfl⟩
  · simp only [World.frozen?, h]
    simp [bytesRow]
    omega

set_option maxRecDepth 100000 in
theorem HSum_ok (s : ByteArray) (hs : s.size = 512) (w : World) :
    Calls Tryz.prog 20 #[.string s] w fun e w' => e = .returned (.tuple #[.int .u64 (sumX s.data.toList), .int .i64 0]) ∧ Below w.heap.size w w' := by
  have h1 : (s.size : Int) = 512 := by omega
  obtain ⟨cap, o, hrun, hcap, hcell, _⟩ := bytes_conv2 s w
  rw [hs] at hrun hcap
  obtain ⟨W1, hW1⟩ : ∃ W1, W1 = ((w.alloc o).alloc (.cells #[.slice (some ⟨w.heap.size, 0, none⟩) 512 cap] 58)).drew := ⟨_, rfl⟩
  have hx : W1.cell? ⟨w.heap.size + 1, 0, none⟩ = some (.slice (some ⟨w.heap.size, 0, none⟩) 512 cap) := by
    have := World.alloc_heap_new (w.alloc o) (.cells #[.slice (some ⟨w.heap.size, 0, none⟩) 512 cap] 58)
    rw [World.size_alloc] at this
    rw [hW1, World.cell?_drew]
    exact cell_of_one this
  have hr : W1.heap[w.heap.size]? = some o := by rw [hW1]; exact (Below.heap_alloc _ _ _ (by simp)).trans (World.alloc_heap_new w o)
  have hB1 : Below w.heap.size w W1 := by rw [hW1]; exact (((Below.refl _ w).alloc (Nat.le_refl _) _).alloc (by simp) _).drew
  have K := Lib.hid (sum_gen (w.heap.size + 1) w.heap.size cap s.data.toList (by simpa using hs) hcap o (fun W h => hcell W _ h) W1 hx hr)
  clear hcell
  go_enter Tryz.func20, Tryz.ntmps20
  go_wp2_with fail
  rw [← hW1]
  refine K.out.mono ?_
  rintro e w2 ⟨rfl, hB⟩
  go_wp2_with fail
  go_ret2
  exact ⟨rfl, hB1.trans (hB.mono hB1.size)⟩

/-- errors.errorType holds the handle of 'error'. -/
def ErrType (w : World) : Prop := w.cell? ⟨1, 0, none⟩ = some (.iface 144 (.agg #[hdl 46]))
theorem ErrType.below {w w' : World} (h : ErrType w) (hb : Below w.heap.size w w') : ErrType w' := (hb.cell (World.block_lt_of_cell? _ _ h)).trans h

set_option maxRecDepth 100000 in
theorem get_wrong (s : ByteArray) (hs : s.size = 512) (hne : (s.data.toList.drop 148).take 8 ≠ checkL (sumX s.data.toList)) (w : World) :
    Calls Tryz.prog 25 #[.string s] w fun e w' => e = .returned (.tuple #[headV ⟨#[]⟩ 0 0, .iface 91 (.agg #[.int .i64 80, .int .i64 148])]) ∧ Below w.heap.size w w' := by
  obtain ⟨W1, hW1⟩ : ∃ W1, W1 = w.alloc (.cells #[.string ⟨#[]⟩, .int .u8 0, .int .u64 0] 25) := ⟨_, rfl⟩
  have hb : W1.heap[w.heap.size]? = some (.cells #[.string ⟨#[]⟩, .int .u8 0, .int .u64 0] 25 (0, 0)) := by rw [hW1]; exact World.alloc_heap_new w _
  have hB1 : Below w.heap.size w W1 := by rw [hW1]; exact (Below.refl _ w).alloc (Nat.le_refl _) _
  have K := Lib.hid (HSum_ok s hs W1)
  have hss : sumX s.data.toList < 262144 := sum_small (by simpa using hs)
  obtain ⟨n, hn⟩ : ∃ n, sumX s.data.toList = n := ⟨_, rfl⟩
  rw [hn] at K hss hne
  have KC := Lib.hid fun W => check_any n hss W
  obtain ⟨t, ht⟩ : ∃ t, s.extract 148 156 = t := ⟨_, rfl⟩
  have hcmp : (t.toList == checkL n) = false := by
    rw [toList_data, ← ht, sub_list, List.drop_take]
    simpa using hne
  have hsz : (s.size : Int) = 512 := by omega
  have kz := lt_block hb
  unfold headV
  go_enter Tryz.func25, Tryz.ntmps25
  go_wp2_with fail
  rw [← hW1]
  refine K.out.mono ?_
  rintro e w2 ⟨rfl, hB⟩
  have hb2 := (hB.block _ kz).trans hb
  have hB2 : Below w.heap.size w w2 := hB1.trans (hB.mono hB1.size)
  clear K hW1 hb hB
  go_wp2_with fail
  go_region_held3 (fun _ => True) (trivial) (first | (go_at_call 36; refine (KC.out _).mono ?_; rintro e w3 ⟨rfl, hB3⟩))
  have hb3 : w3.heap[w.heap.size]? = some (.cells #[.string ⟨#[]⟩, .int .u8 0, .int .u64 0] 25 (0, 0)) := (hB3.block _ (lt_block hb2)).trans hb2
  have hB4 : Below w.heap.size w w3 := hB2.trans ((show Below w2.heap.size w2 w3 from ((Below.refl _ w2).drew).trans hB3).mono hB2.size)
  have c0 : w3.cell? ⟨w.heap.size, 0, none⟩ = some (.string ⟨#[]⟩) := by simp [World.cell?, hb3]
  have c1 : w3.cell? ⟨w.heap.size, 1, none⟩ = some (.int .u8 0) := by simp [World.cell?, hb3]
  have c2 : w3.cell? ⟨w.heap.size, 2, none⟩ = some (.int .u64 0) := by simp [World.cell?, hb3]
  have f0 : w3.frozen? ⟨w.heap.size, 0, none⟩ = false := by simp [World.frozen?, hb3]
  have f1 : w3.frozen? ⟨w.heap.size, 1, none⟩ = false := by simp [World.frozen?, hb3]
  have f2 : w3.frozen? ⟨w.heap.size, 2, none⟩ = false := by simp [World.frozen?, hb3]
  clear hb2 hB2 hB3
  go_wp2_with fail
  have hb5 : (((w3.setCell ⟨w.heap.size, 0, none⟩ (.string ⟨#[]⟩)).setCell ⟨w.heap.size, 1, none⟩ (.int .u8 0)).setCell ⟨w.heap.size, 2, none⟩ (.int .u64 0)).heap[w.heap.size]? = some (.cells #[.string ⟨#[]⟩, .int .u8 0, .int .u64 0] 25 (0, 0)) :=
    cells_set (i := 2) (cells_set (i := 1) (cells_set (i := 0) hb3))
  have hB5 : Below w.heap.size w (((w3.setCell ⟨w.heap.size, 0, none⟩ (.string ⟨#[]⟩)).setCell ⟨w.heap.size, 1, none⟩ (.int .u8 0)).setCell ⟨w.heap.size, 2, none⟩ (.int .u64 0)) :=
    ((hB4.setCell (p := ⟨w.heap.size, 0, none⟩) (Nat.le_refl _) _).setCell (p := ⟨w.heap.size, 1, none⟩) (Nat.le_refl _) _).setCell (p := ⟨w.heap.size, 2, none⟩) (Nat.le_refl _) _
  generalize ((w3.setCell ⟨w.heap.size, 0, none⟩ (.string ⟨#[]⟩)).setCell ⟨w.heap.size, 1, none⟩ (.int .u8 0)).setCell ⟨w.heap.size, 2, none⟩ (.int .u64 0) = W5 at *
  have d0 : W5.cell? ⟨w.heap.size, 0, none⟩ = some (.string ⟨#[]⟩) := by simp [World.cell?, hb5]
  have d1 : W5.cell? ⟨w.heap.size, 1, none⟩ = some (.int .u8 0) := by simp [World.cell?, hb5]
  have d2 : W5.cell? ⟨w.heap.size, 2, none⟩ = some (.int .u64 0) := by simp [World.cell?, hb5]
  refine ⟨rfl, .tuple #[.agg #[.string ⟨#[]⟩, .int .u8 0, .int .u64 0], .iface 91 (.agg #[.int .i64 80, .int .i64 148])], ?_, rfl, hB5⟩
  simp only [results, Tryz.results25]
  go_simp

set_option maxRecDepth 100000 in
theorem Get_wrong (s t : ByteArray) (hs : 512 ≤ s.size) (hs2 : s.size ≤ 140737488351232) (ht : s.extract 0 512 = t) (hne : (t.data.toList.drop 148).take 8 ≠ checkL (sumX t.data.toList)) (w : World) (hT : ErrType w) :
    Calls Tryz.prog 12 #[.string s] w fun e w' => e = .returned (.tuple #[headV ⟨#[]⟩ 0 0, .int .i64 148, .int .i64 80]) ∧ Below w.heap.size w w' := by
  have hts : t.size = 512 := by rw [← ht, ByteArray.size_extract]; omega
  obtain ⟨W1, hW1⟩ : ∃ W1, W1 = w.alloc (.cells #[.string ⟨#[]⟩, .int .u8 0, .int .u64 0] 25) := ⟨_, rfl⟩
  have hb : W1.heap[w.heap.size]? = some (.cells #[.string ⟨#[]⟩, .int .u8 0, .int .u64 0] 25 (0, 0)) := by rw [hW1]; exact World.alloc_heap_new w _
  have hB1 : Below w.heap.size w W1 := by rw [hW1]; exact (Below.refl _ w).alloc (Nat.le_refl _) _
  have K := get_wrong t hts hne W1
  have kz := lt_block hb
  have h1 : ¬ (s.size : Int) < 512 := by omega
  have h2 : (512 : Int) ≤ s.size := by omega
  unfold headV at *
  replace K := Lib.hid K
  have KT := Lib.hid fun W h => told_hit 80 148 W h
  clear hne
  go_enter Tryz.func12, Tryz.ntmps12
  go_wp2_with fail
  rw [← hW1]
  refine K.out.mono ?_
  rintro e w2 ⟨rfl, hB⟩
  have hb2 := (hB.block _ kz).trans hb
  have hB2 : Below w.heap.size w w2 := hB1.trans (hB.mono hB1.size)
  have hT2 := hT.below hB2
  clear K hW1 hb hB
  go_wp2_with fail
  obtain ⟨W3, hW3⟩ : ∃ W3, W3 = w2.alloc (.cells #[.string ⟨#[]⟩, .int .u8 0, .int .u64 0] 25) := ⟨_, rfl⟩
  have hx3 : W3.heap[w2.heap.size]? = some (.cells #[.string ⟨#[]⟩, .int .u8 0, .int .u64 0] 25 (0, 0)) := by rw [hW3]; exact World.alloc_heap_new w2 _
  have hb3 : W3.heap[w.heap.size]? = some (.cells #[.string ⟨#[]⟩, .int .u8 0, .int .u64 0] 25 (0, 0)) := by rw [hW3]; exact old_at hb2
  have hB3 : Below w.heap.size w W3 := by rw [hW3]; exact hB2.alloc hB2.size _
  rw [← hW3]
  refine (KT.out _ (hT.below hB3)).mono ?_
  rintro e w4 ⟨rfl, hB⟩
  have hx4 := (hB.block _ (lt_block hx3)).trans hx3
  have hb4 := (hB.block _ (lt_block hb3)).trans hb3
  have hB4 : Below w.heap.size w w4 := hB3.trans (hB.mono hB3.size)
  have x0 : w4.cell? ⟨w2.heap.size, 0, none⟩ = some (.string ⟨#[]⟩) := by simp [World.cell?, hx4]
  have x1 : w4.cell? ⟨w2.heap.size, 1, none⟩ = some (.int .u8 0) := by simp [World.cell?, hx4]
  have x2 : w4.cell? ⟨w2.heap.size, 2, none⟩ = some (.int .u64 0) := by simp [World.cell?, hx4]
  have c0 : w4.cell? ⟨w.heap.size, 0, none⟩ = some (.string ⟨#[]⟩) := by simp [World.cell?, hb4]
  have c1 : w4.cell? ⟨w.heap.size, 1, none⟩ = some (.int .u8 0) := by simp [World.cell?, hb4]
  have c2 : w4.cell? ⟨w.heap.size, 2, none⟩ = some (.int .u64 0) := by simp [World.cell?, hb4]
  have f0 : w4.frozen? ⟨w.heap.size, 0, none⟩ = false := by simp [World.frozen?, hb4]
  have f1 : w4.frozen? ⟨w.heap.size, 1, none⟩ = false := by simp [World.frozen?, hb4]
  have f2 : w4.frozen? ⟨w.heap.size, 2, none⟩ = false := by simp [World.frozen?, hb4]
  clear hW3 hx3 hb3 hB3 hB KT hb2 hB2 hT2
  go_wp2_with fail
  have hb5 : (((w4.setCell ⟨w.heap.size, 0, none⟩ (.string ⟨#[]⟩)).setCell ⟨w.heap.size, 1, none⟩ (.int .u8 0)).setCell ⟨w.heap.size, 2, none⟩ (.int .u64 0)).heap[w.heap.size]? = some (.cells #[.string ⟨#[]⟩, .int .u8 0, .int .u64 0] 25 (0, 0)) :=
    cells_set (i := 2) (cells_set (i := 1) (cells_set (i := 0) hb4))
  have hB5 : Below w.heap.size w (((w4.setCell ⟨w.heap.size, 0, none⟩ (.string ⟨#[]⟩)).setCell ⟨w.heap.size, 1, none⟩ (.int .u8 0)).setCell ⟨w.heap.size, 2, none⟩ (.int .u64 0)) :=
    ((hB4.setCell (p := ⟨w.heap.size, 0, none⟩) (Nat.le_refl _) _).setCell (p := ⟨w.heap.size, 1, none⟩) (Nat.le_refl _) _).setCell (p := ⟨w.heap.size, 2, none⟩) (Nat.le_refl _) _
  generalize ((w4.setCell ⟨w.heap.size, 0, none⟩ (.string ⟨#[]⟩)).setCell ⟨w.heap.size, 1, none⟩ (.int .u8 0)).setCell ⟨w.heap.size, 2, none⟩ (.int .u64 0) = W5 at *
  have d0 : W5.cell? ⟨w.heap.size, 0, none⟩ = some (.string ⟨#[]⟩) := by simp [World.cell?, hb5]
  have d1 : W5.cell? ⟨w.heap.size, 1, none⟩ = some (.int .u8 0) := by simp [World.cell?, hb5]
  have d2 : W5.cell? ⟨w.heap.size, 2, none⟩ = some (.int .u64 0) := by simp [World.cell?, hb5]
  refine ⟨rfl, .tuple #[.agg #[.string ⟨#[]⟩, .int .u8 0, .int .u64 0], .int .i64 148, .int .i64 80], ?_, rfl, hB5⟩
  simp only [results, Tryz.results12]
  go_simp
end Go.Proofs.YtkfaejnpgdbhlaaGreatDoor

/-
  The statements' helper Few by contract: a head, its path cut to three hundred bytes.
-/
namespace Go.Proofs.YtkfaejnpgdbhlaaGreatDoor
open Go.RowKit

set_option maxRecDepth 100000 in
theorem Few_any (p q : ByteArray) (hs : p.size ≤ 140737488351232) (hq : p.extract 0 (min (p.size : Int) 300).toNat = q) (t n : Nat) (w : World) :
    Calls Tryz.prog 16 #[headV p t n] w fun e w' => e = .returned (headV q t n) ∧ Below w.heap.size w w' := by
  unfold headV
  obtain ⟨W1, hW1⟩ : ∃ W1, W1 = (w.alloc (.cells #[.string p, .int .u8 t, .int .u64 n] 25)).alloc (.cells #[.string ⟨#[]⟩, .int .u8 0, .int .u64 0] 25) := ⟨_, rfl⟩
  have hb : W1.heap[w.heap.size]? = some (.cells #[.string p, .int .u8 t, .int .u64 n] 25 (0, 0)) := by rw [hW1]; exact (Below.heap_alloc _ _ _ (by simp)).trans (World.alloc_heap_new w _)
  have hr : W1.heap[w.heap.size + 1]? = some (.cells #[.string ⟨#[]⟩, .int .u8 0, .int .u64 0] 25 (0, 0)) := by
    have := World.alloc_heap_new (w.alloc (.cells #[.string p, .int .u8 t, .int .u64 n] 25)) (.cells #[.string ⟨#[]⟩, .int .u8 0, .int .u64 0] 25)
    rw [World.size_alloc] at this
    rw [hW1]; exact this
  have hB1 : Below w.heap.size w W1 := by rw [hW1]; exact ((Below.refl _ w).alloc (Nat.le_refl _) _).alloc (by simp) _
  have a0 : W1.cell? ⟨w.heap.size, 0, none⟩ = some (.string p) := by simp [World.cell?, hb]
  have a1 : W1.cell? ⟨w.heap.size, 1, none⟩ = some (.int .u8 t) := by simp [World.cell?, hb]
  have a2 : W1.cell? ⟨w.heap.size, 2, none⟩ = some (.int .u64 n) := by simp [World.cell?, hb]
  have c0 : W1.cell? ⟨w.heap.size + 1, 0, none⟩ = some (.string ⟨#[]⟩) := by simp [World.cell?, hr]
  have c1 : W1.cell? ⟨w.heap.size + 1, 1, none⟩ = some (.int .u8 0) := by simp [World.cell?, hr]
  have c2 : W1.cell? ⟨w.heap.size + 1, 2, none⟩ = some (.int .u64 0) := by simp [World.cell?, hr]
  have f0 : W1.frozen? ⟨w.heap.size + 1, 0, none⟩ = false := by simp [World.frozen?, hr]
  have f1 : W1.frozen? ⟨w.heap.size + 1, 1, none⟩ = false := by simp [World.frozen?, hr]
  have f2 : W1.frozen? ⟨w.heap.size + 1, 2, none⟩ = false := by simp [World.frozen?, hr]
  go_enter Tryz.func16, Tryz.ntmps16
  go_wp2_with fail
  rw [← hW1]
  clear hW1
  go_region
  have hb5 : (((W1.setCell ⟨w.heap.size + 1, 0, none⟩ (.string q)).setCell ⟨w.heap.size + 1, 1, none⟩ (.int .u8 t)).setCell ⟨w.heap.size + 1, 2, none⟩ (.int .u64 n)).drew.heap[w.heap.size + 1]? = some (.cells #[.string q, .int .u8 t, .int .u64 n] 25 (0, 0)) :=
    cells_set (i := 2) (cells_set (i := 1) (cells_set (i := 0) hr))
  have hB5 : Below w.heap.size w (((W1.setCell ⟨w.heap.size + 1, 0, none⟩ (.string q)).setCell ⟨w.heap.size + 1, 1, none⟩ (.int .u8 t)).setCell ⟨w.heap.size + 1, 2, none⟩ (.int .u64 n)).drew :=
    (((hB1.setCell (p := ⟨w.heap.size + 1, 0, none⟩) (by simp) _).setCell (p := ⟨w.heap.size + 1, 1, none⟩) (by simp) _).setCell (p := ⟨w.heap.size + 1, 2, none⟩) (by simp) _).drew
  generalize (((W1.setCell ⟨w.heap.size + 1, 0, none⟩ (.string q)).setCell ⟨w.heap.size + 1, 1, none⟩ (.int .u8 t)).setCell ⟨w.heap.size + 1, 2, none⟩ (.int .u64 n)).drew = W5 at *
  clear a0 a1 a2 c0 c1 c2 f0 f1 f2
  go_wp2_with fail
  have d0 : W5.cell? ⟨w.heap.size + 1, 0, none⟩ = some (.string q) := by simp [World.cell?, hb5]
  have d1 : W5.cell? ⟨w.heap.size + 1, 1, none⟩ = some (.int .u8 t) := by simp [World.cell?, hb5]
  have d2 : W5.cell? ⟨w.heap.size + 1, 2, none⟩ = some (.int .u64 n) := by simp [World.cell?, hb5]
  refine ⟨rfl, .agg #[.string q, .int .u8 t, .int .u64 n], ?_, rfl, hB5⟩
  simp only [results, Tryz.results16]
  go_simp
end Go.Proofs.YtkfaejnpgdbhlaaGreatDoor
