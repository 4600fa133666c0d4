/-
  header's Put by contract: a head's block.
-/
import Derived.Test.YtkfaejnpgdbhlaaGreatDoorHeadIs
import Derived.Test.YtkfaejnpgdbhlaaGreatDoorHeadSet
import Derived.Deep.Cut
import Derived.Test.YtkfaejnpgdbhlaaGreatDoorRegInv
namespace Go.Proofs.YtkfaejnpgdbhlaaGreatDoor
open Go.RowKit

/-- What Put holds between its regions: the head, the writer, the bytes, the table. -/
structure PutAt (w : World) (p : ByteArray) (t n : Nat) (wb tb g : Nat) (l : List UInt8) (W : World) : Prop where
  hd : W.heap[w.heap.size]? = some (.cells #[.string p, .int .u8 t, .int .u64 n] 25 (0, 0))
  wr : W.heap[wb]? = some (.cells #[.slice (some ⟨g, 0, none⟩) 512 512, .pointer (some ⟨tb, 0, none⟩)] 79 (0, 0))
  row : W.heap[g]? = some (byteRow l)
  tab : W.heap[tb]? = some (TabCells 1 0 16)
  bel : Below w.heap.size w W
  o1 : w.heap.size < wb
  o2 : w.heap.size < tb
  o3 : w.heap.size < g
  d1 : wb ≠ tb
  d2 : wb ≠ g
  d3 : tb ≠ g

theorem PutAt.below {w W W' : World} {p : ByteArray} {t n wb tb g : Nat} {l : List UInt8} (h : PutAt w p t n wb tb g l W) (hb : Below W.heap.size W W') : PutAt w p t n wb tb g l W' :=
  { h with
    hd := (hb.block _ (lt_block h.hd)).trans h.hd
    wr := (hb.block _ (lt_block h.wr)).trans h.wr
    row := (hb.block _ (lt_block h.row)).trans h.row
    tab := (hb.block _ (lt_block h.tab)).trans h.tab
    bel := h.bel.trans (hb.mono h.bel.size) }
theorem PutAt.grown {w W W' : World} {p : ByteArray} {t n wb tb g : Nat} {l l' : List UInt8} (h : PutAt w p t n wb tb g l W) (hb : W.grownBy W' (some g)) (hr : W'.heap[g]? = some (byteRow l')) : PutAt w p t n wb tb g l' W' :=
  { h with
    hd := (hb.block _ (lt_block h.hd) (by have := h.o3; simp; omega)).trans h.hd
    wr := (hb.block _ (lt_block h.wr) (by have := h.d2; simpa using this)).trans h.wr
    row := hr
    tab := (hb.block _ (lt_block h.tab) (by have := h.d3; simpa using this)).trans h.tab
    bel := below_grown h.bel hb (by have := h.o3; omega) h.bel.size }

set_option maxRecDepth 100000 in
set_option maxHeartbeats 1000000 in
theorem PutH_none (p : ByteArray) (hs : p.size ≤ 1048576) (t : UInt8) (n : Nat) (h : headL p.data.toList t n = none) (w : World) {ea : Addr} (hE : PathErr w ea) :
    Calls Tryz.prog 17 #[headV p t.toNat n] w fun e w' => e = .returned (.tuple #[.string ⟨#[]⟩, .int .i64 81]) ∧ Below w.heap.size w w' := by
  unfold headV
  obtain ⟨W1, hW1⟩ : ∃ W1, W1 = w.alloc (.cells #[.string p, .int .u8 t.toNat, .int .u64 n] 25) := ⟨_, rfl⟩
  have hB1 : Below w.heap.size w W1 := by rw [hW1]; exact (Below.refl _ w).alloc (Nat.le_refl _) _
  have K := isHead_any p hs t n W1 (hE.below hB1)
  unfold headV at K
  rw [h] at K
  replace K := Lib.hid K
  clear h
  go_enter Tryz.func17, Tryz.ntmps17
  go_wp2_with fail
  rw [← hW1]
  refine K.out.mono ?_
  rintro e W2 ⟨rfl, hB⟩
  clear K hW1
  go_wp2_with fail
  go_ret2
  exact ⟨rfl, hB1.trans (hB.mono hB1.size)⟩

theorem PutAt.block {w W : World} {p : ByteArray} {t n wb tb g : Nat} {l : List UInt8} (h : PutAt w p t n wb tb g l W) : BlockAt W wb g l := ⟨by simp [World.cell?, h.wr], h.row⟩
theorem PutAt.c1 {w W : World} {p : ByteArray} {t n wb tb g : Nat} {l : List UInt8} (h : PutAt w p t n wb tb g l W) : W.cell? ⟨wb, 1, none⟩ = some (.pointer (some ⟨tb, 0, none⟩)) := by simp [World.cell?, h.wr]
theorem PutAt.ct {w W : World} {p : ByteArray} {t n wb tb g : Nat} {l : List UInt8} (h : PutAt w p t n wb tb g l W) : W.cell? ⟨w.heap.size, 1, none⟩ = some (.int .u8 t) := by simp [World.cell?, h.hd]
theorem PutAt.cn {w W : World} {p : ByteArray} {t n wb tb g : Nat} {l : List UInt8} (h : PutAt w p t n wb tb g l W) : W.cell? ⟨w.heap.size, 2, none⟩ = some (.int .u64 n) := by simp [World.cell?, h.hd]
theorem PutAt.drew {w W : World} {p : ByteArray} {t n wb tb g : Nat} {l : List UInt8} (h : PutAt w p t n wb tb g l W) : PutAt w p t n wb tb g l W.drew := h.below (Below.refl _ _).drew
theorem PutAt.alloc {w W : World} {p : ByteArray} {t n wb tb g : Nat} {l : List UInt8} (h : PutAt w p t n wb tb g l W) (o : Obj) : PutAt w p t n wb tb g l (W.alloc o) := h.below ((Below.refl _ _).alloc (Nat.le_refl _) _)

/-- A type's byte in a block of its own. -/
def oneRow (t : UInt8) : Obj := .cells #[.int .u8 t.toNat] 5 (0, 0)
theorem conv_one {W : World} {g : Nat} {t : UInt8} (h : W.heap[g]? = some (oneRow t)) : (convert 35 9 (.slice (some ⟨g, 0, none⟩) 1 1)).run Tryz.prog W = .ok (.string ⟨#[t]⟩) W :=
  conv_part (n := 0) (k := 1) (cap := 1) (l := [t]) h (by simp)

theorem new_at {A : World} {o : Obj} {k : Nat} (hk : k = A.heap.size) : (A.alloc o).heap[k]? = some o := by subst hk; exact World.alloc_heap_new A o
theorem old_at {A : World} {o o' : Obj} {k : Nat} (h : A.heap[k]? = some o') : (A.alloc o).heap[k]? = some o' := (Below.heap_alloc A o k (lt_block h)).trans h
theorem putAt_mk {w A : World} {p : ByteArray} {t n tb g wb : Nat} {l : List UInt8} (hd : A.heap[w.heap.size]? = some (.cells #[.string p, .int .u8 t, .int .u64 n] 25 (0, 0))) (row : A.heap[g]? = some (byteRow l)) (tab : A.heap[tb]? = some (TabCells 1 0 16))
    (bel : Below w.heap.size w A) (o2 : w.heap.size < tb) (o3 : w.heap.size < g) (d3 : tb ≠ g) (hwb : wb = A.heap.size) : PutAt w p t n wb tb g l (A.alloc (.cells #[.slice (some ⟨g, 0, none⟩) 512 512, .pointer (some ⟨tb, 0, none⟩)] 79)) where
  hd := old_at hd
  wr := new_at hwb
  row := old_at row
  tab := old_at tab
  bel := bel.alloc bel.size _
  o1 := by have := lt_block hd; omega
  o2 := o2
  o3 := o3
  d1 := by have := lt_block tab; omega
  d2 := by have := lt_block row; omega
  d3 := d3
theorem putAt_mk2 {w A W4 : World} {p : ByteArray} {t n tb g wb : Nat} {l : List UInt8} (hd : A.heap[w.heap.size]? = some (.cells #[.string p, .int .u8 t, .int .u64 n] 25 (0, 0))) (row : A.heap[g]? = some (byteRow l)) (bel : Below w.heap.size w A)
    (hG : A.grownBy W4 (some tb)) (tab : W4.heap[tb]? = some (TabCells 1 0 16)) (o2 : w.heap.size < tb) (o3 : w.heap.size < g) (d3 : tb ≠ g) (hwb : wb = W4.heap.size) : PutAt w p t n wb tb g l (W4.alloc (.cells #[.slice (some ⟨g, 0, none⟩) 512 512, .pointer (some ⟨tb, 0, none⟩)] 79)) :=
  putAt_mk ((hG.block _ (lt_block hd) (by simp; omega)).trans hd) ((hG.block _ (lt_block row) (by simpa using Ne.symm d3)).trans row) tab (below_grown bel hG (by omega) bel.size) o2 o3 d3 hwb
theorem tab_zero : TabCells 0 0 0 = .cells #[.int .u32 0, .int .i32 0, .int .u32 0, .int .i64 0, .int .i64 0, .int .i64 0, .int .i64 0, .int .i64 0, .int .i64 0, .int .i64 0, .int .i64 0, .int .i64 0, .int .i64 0, .int .i64 0, .int .i64 0, .int .i64 0, .int .i64 0, .int .i64 0, .int .i64 0, .int .i64 0, .int .i64 0, .int .i64 0, .int .i64 0, .int .i64 0, .int .i64 0, .int .i64 0, .int .i64 0, .int .i64 0, .int .i64 0, .int .i64 0, .int .i64 0, .int .i64 0, .int .i64 0, .int .i64 0, .int .i64 0] 76 (0, 0) := rfl
theorem made_zero (n : Nat) : madeCells #[Value.int .u8 0] n = (Lib.byteCells (List.replicate n 0)).toArray := by
  apply Array.ext
  · simp [madeCells, Lib.byteCells]
  · intro i h1 h2
    simp [madeCells, Lib.byteCells, Nat.mod_one]
/-- A block's bytes as they are made. -/
def zeros512 : List UInt8 := List.replicate 512 0
theorem zeros_len : zeros512.length = 512 := by rw [zeros512, List.length_replicate]
theorem make_block (W : World) : (Instr.makeSlice 35 (.int .i64 512) (.int .i64 512)).run Tryz.prog W = .ok (.slice (some ⟨W.heap.size, 0, none⟩) 512 512) (W.alloc (byteRow zeros512)) := by
  obtain ⟨i0, hi, hz0, hz1, hz2⟩ := info_parts infoByte
  have := run_makeSlice (P := Tryz.prog) W 35 5 i0 (.int .u8 0) Tryz.underlying35 hi hz0 .i64 .i64 512 512 (by omega) (by omega) (by rw [hz1]; decide) (by rw [hz2]; decide) (by omega)
  rw [this, hz1]
  have e : madeCells (Value.int .u8 0).cells (512 * 1) = (Lib.byteCells (List.replicate 512 0)).toArray := made_zero 512
  show Result.ok _ (W.alloc (.cells (madeCells (Value.int .u8 0).cells (512 * 1)) 5 (0, 0))) = _
  rw [e]; rfl

theorem set_texts (wb tb g : Nat) (pre nm : List UInt8) (mode n : Nat) (t : UInt8) (hfit : Fits wids (textsL pre nm mode n t [])) (h1 : wb ≠ g) (h2 : tb ≠ g) (W : World) (hb : Nat) (h : BlockAt W wb g zeros512) (ht : W.heap[tb]? = some (TabCells 1 0 16))
    (hs : W.heap[hb]? = some (.cells #[.string ⟨nm.toArray⟩, .string ⟨(fieldL 7 mode).toArray⟩, .string ⟨(fieldL 7 0).toArray⟩, .string ⟨(fieldL 7 0).toArray⟩, .string ⟨(fieldL 11 n).toArray⟩, .string ⟨(fieldL 11 0).toArray⟩, .string ⟨#[]⟩, .string ⟨#[t]⟩, .string ⟨#[]⟩,
      .string ⟨#[117, 115, 116, 97, 114, 0, 48, 48]⟩, .string ⟨#[]⟩, .string ⟨#[]⟩, .string ⟨(fieldL 7 0).toArray⟩, .string ⟨(fieldL 7 0).toArray⟩, .string ⟨pre.toArray⟩] 9 (0, 0))) :
    Calls Tryz.prog 34 #[.pointer (some ⟨wb, 0, none⟩), .pointer (some ⟨tb, 0, none⟩), .slice (some ⟨hb, 0, none⟩) 15 15] W fun e w' => e = .returned (.tuple #[]) ∧ w'.heap[g]? = some (byteRow (flatW wids (textsL pre nm mode n t []))) ∧ W.grownBy w' (some g) := by
  have hne : hb ≠ g := fun e => by
    subst e
    have h2 := Option.some.inj (h.row.symm.trans hs)
    unfold byteRow at h2
    injection h2 with h3
    have h4 := congrArg Array.size h3
    rw [show (Lib.byteCells zeros512).toArray.size = 512 by rw [List.size_toArray, Lib.byteCells, List.length_map, zeros_len]] at h4
    rw [show (#[_, _, _, _, _, _, _, _, _, _, _, _, _, _, _] : Array Value).size = 15 from rfl] at h4
    omega
  have e : setRun 0 wids (textsL pre nm mode n t []) zeros512 = flatW wids (textsL pre nm mode n t []) := setRun_flat wids (textsL pre nm mode n t []) [] hfit
  have := set_any wb tb g hb 15 (textsL pre nm mode n t []) zeros512 zeros_len hfit h1 h2 hne W h ht hs
  rwa [e] at this

/-- What the operations of the region leave, whatever the world. -/
def PutV (w : World) (wb tb : Nat) (pre nm : List UInt8) (mode n : Nat) (t : UInt8) : Nat → Value → Prop
  | 0, v => v = .pointer (some ⟨wb, 0, none⟩)
  | 1, v => v = .pointer (some ⟨wb, 0, none⟩)
  | 2, v => v = .pointer (some ⟨wb, 0, none⟩)
  | 3, v => v = .pointer (some ⟨wb, 0, none⟩)
  | 4, v => v = .pointer (some ⟨wb, 0, none⟩)
  | 5, v => v = .pointer (some ⟨wb, 1, none⟩)
  | 6, v => v = .pointer (some ⟨tb, 0, none⟩)
  | 7, v => v = .string ⟨(nm).toArray⟩
  | 8, v => v = .int .u64 mode
  | 9, v => v = .string ⟨(fieldL 7 mode).toArray⟩
  | 10, v => v = .string ⟨(fieldL 7 0).toArray⟩
  | 11, v => v = .string ⟨(fieldL 7 0).toArray⟩
  | 12, v => v = .pointer (some ⟨w.heap.size, 2, none⟩)
  | 13, v => v = .int .u64 n
  | 14, v => v = .string ⟨(fieldL 11 n).toArray⟩
  | 15, v => v = .string ⟨(fieldL 11 0).toArray⟩
  | 16, v => v = .pointer (some ⟨w.heap.size, 1, none⟩)
  | 17, v => v = .int .u8 t.toNat
  | 19, v => v = .string ⟨#[t]⟩
  | 20, v => v = .string ⟨(fieldL 7 0).toArray⟩
  | 21, v => v = .string ⟨(fieldL 7 0).toArray⟩
  | 22, v => v = .string ⟨(pre).toArray⟩
  | _, _ => True
/-- .. and where the two rows are that it makes. -/
def PutC (w : World) (wb tb g : Nat) (pre nm : List UInt8) (mode n : Nat) (t : UInt8) (j : Nat) (v : Value) (W : World) : Prop :=
  PutV w wb tb pre nm mode n t j v ∧ (j = 18 → ∃ k, v = .slice (some ⟨k, 0, none⟩) 1 1 ∧ W.heap[k]? = some (oneRow t) ∧ k ≠ g) ∧
  (j = 23 → ∃ k, v = .slice (some ⟨k, 0, none⟩) 15 15 ∧ W.heap[k]? = some (.cells #[.string ⟨nm.toArray⟩, .string ⟨(fieldL 7 mode).toArray⟩, .string ⟨(fieldL 7 0).toArray⟩, .string ⟨(fieldL 7 0).toArray⟩, .string ⟨(fieldL 11 n).toArray⟩, .string ⟨(fieldL 11 0).toArray⟩, .string ⟨#[]⟩, .string ⟨#[t]⟩, .string ⟨#[]⟩, .string ⟨#[117, 115, 116, 97, 114, 0, 48, 48]⟩, .string ⟨#[]⟩, .string ⟨#[]⟩, .string ⟨(fieldL 7 0).toArray⟩, .string ⟨(fieldL 7 0).toArray⟩, .string ⟨pre.toArray⟩] 9 (0, 0)) ∧ k ≠ g)
theorem PutC.grown {w W W' : World} {wb tb g : Nat} {pre nm : List UInt8} {mode n : Nat} {t : UInt8} (hG : W.grownBy W' (some g)) (j : Nat) (v : Value) (h : PutC w wb tb g pre nm mode n t j v W) : PutC w wb tb g pre nm mode n t j v W' := by
  obtain ⟨h1, h2, h3⟩ := h
  refine ⟨h1, fun e => ?_, fun e => ?_⟩
  · obtain ⟨k, a, b, c⟩ := h2 e
    exact ⟨k, a, (hG.block _ (lt_block b) (by simpa using c)).trans b, c⟩
  · obtain ⟨k, a, b, c⟩ := h3 e
    exact ⟨k, a, (hG.block _ (lt_block b) (by simpa using c)).trans b, c⟩
theorem grown_of_below {W W' : World} {r : Option Nat} (h : Below W.heap.size W W') : W.grownBy W' r := ⟨h.os, h.tape, h.output, h.size, fun k hk _ => h.block k hk⟩
theorem PutC.plain {w W : World} {wb tb g : Nat} {pre nm : List UInt8} {mode n : Nat} {t : UInt8} {j : Nat} {v : Value} (h : PutV w wb tb pre nm mode n t j v) (h1 : j ≠ 18) (h2 : j ≠ 23) : PutC w wb tb g pre nm mode n t j v W := ⟨h, fun e => absurd e h1, fun e => absurd e h2⟩

theorem headL_some {p pre name : List UInt8} {t : UInt8} {n : Nat} (h : headL p t n = some (pre, name)) : splitL p = some (pre, name) ∧ (t = 53 → name.length < 100) ∧ n ≤ 8589934591 := by
  unfold headL at h
  cases hs : splitL p with
  | none => rw [hs] at h; cases h
  | some pn =>
    obtain ⟨a, b⟩ := pn
    rw [hs] at h
    simp only at h
    split at h
    · split at h
      · rename_i h1 h2; cases h; exact ⟨rfl, fun _ => h2.1, by omega⟩
      · cases h
    · split at h
      · rename_i h1 h2; cases h; exact ⟨rfl, fun e => absurd e h1, h2.2⟩
      · cases h

set_option maxRecDepth 100000 in
set_option maxHeartbeats 20000000 in
theorem PutH_some (p : ByteArray) (hs : p.size ≤ 1048576) (t : UInt8) (n : Nat) (pre name : List UInt8) (h : headL p.data.toList t n = some (pre, name)) (w : World) {ea : Addr} (hE : PathErr w ea) :
    Calls Tryz.prog 17 #[headV p t.toNat n] w fun e w' => e = .returned (.tuple #[.string ⟨(summedL (flatW wids (textsL pre (if t = 53 then name ++ [47] else name) (if t = 53 then 493 else 420) n t []))).toArray⟩, .int .i64 0]) ∧ Below w.heap.size w w' := by
  unfold headV
  obtain ⟨hsp, hn1, hn2⟩ := headL_some h
  obtain ⟨hl1, hl2⟩ := splitL_len hsp
  obtain ⟨nm, hnm⟩ : ∃ nm, (if t = 53 then name ++ [47] else name) = nm := ⟨_, rfl⟩
  obtain ⟨mode, hmode⟩ : ∃ mode : Nat, (if t = 53 then 493 else 420) = mode := ⟨_, rfl⟩
  have hnml : nm.length ≤ 100 := by
    rw [← hnm]; split
    · rename_i e; have := hn1 e; simp; omega
    · exact hl2
  obtain ⟨W1, hW1⟩ : ∃ W1, W1 = w.alloc (.cells #[.string p, .int .u8 t.toNat, .int .u64 n] 25) := ⟨_, rfl⟩
  have hb : W1.heap[w.heap.size]? = some (.cells #[.string p, .int .u8 t.toNat, .int .u64 n] 25 (0, 0)) := by rw [hW1]; exact World.alloc_heap_new w _
  have hB1 : Below w.heap.size w W1 := by rw [hW1]; exact (Below.refl _ w).alloc (Nat.le_refl _) _
  have kz := lt_block hb
  have K := isHead_any p hs t n W1 (hE.below hB1)
  unfold headV at K
  rw [h] at K
  replace K := Lib.hid K
  have HM := Lib.hid hmode
  have HN := Lib.hid hnm
  rw [hnm, hmode]
  clear hnm hmode h
  go_enter Tryz.func17, Tryz.ntmps17
  go_wp2_with fail
  rw [← hW1]
  have hfin : ∀ W2, Below W1.heap.size W1 W2 → Below w.heap.size w W2 ∧ W2.heap[w.heap.size]? = some (.cells #[.string p, .int .u8 t.toNat, .int .u64 n] 25 (0, 0)) := fun W2 h => by
    exact ⟨hB1.trans (h.mono hB1.size), (h.block _ kz).trans hb⟩
  refine K.out.mono ?_
  rintro e W2 ⟨rfl, hB⟩
  obtain ⟨hB2, hb2⟩ := hfin W2 hB
  have KS := Lib.hid (Split_any p hs W2 (hE.below hB2))
  rw [hsp] at KS
  have c0 : W2.cell? ⟨w.heap.size, 0, none⟩ = some (.string p) := by simp [World.cell?, hb2]
  have kz2 := lt_block hb2
  clear K hW1 hfin hb hB
  go_wp2_with fail
  refine KS.out.mono ?_
  rintro e W3 ⟨rfl, hB⟩
  have hb3 := (hB.block _ kz2).trans hb2
  have hB3 : Below w.heap.size w W3 := hB2.trans (hB.mono hB2.size)
  have c1 : W3.cell? ⟨w.heap.size, 1, none⟩ = some (.int .u8 t.toNat) := by simp [World.cell?, hb3]
  clear KS hb2 hB2 kz2 hB c0
  simp only [SplitRes]
  go_upto_if 21 with (fail)
  go_cut [5, 7] from 9 (fun s5 s7 wx => s5 = .string ⟨nm.toArray⟩ ∧ s7 = .int .u64 mode ∧ wx = W3)
  case first =>
    by_cases h53 : t = 53
    · subst h53
      have e1 : mode = 493 := by rw [← HM.out, if_pos rfl]
      have e2 : nm = name ++ [47] := by rw [← HN.out, if_pos rfl]
      subst e1 e2
      have hs1 : (⟨name.toArray⟩ : ByteArray).size + (⟨#[47]⟩ : ByteArray).size ≤ 9223372036854775807 := by simp [ByteArray.size]; omega
      have hs2 := fun w2 => run_string_add_sum (P := Tryz.prog) w2 _ _ hs1
      have hap : (⟨name.toArray⟩ : ByteArray) ++ (⟨#[47]⟩ : ByteArray) = ⟨(name ++ [47]).toArray⟩ := by apply ByteArray.ext; simp
      rw [hap] at hs2
      clear HM HN hs1 hap
      go_wp2_with fail
      go_meet
      case rel => exact ⟨rfl, rfl, rfl⟩
    · have e1 : mode = 420 := by rw [← HM.out, if_neg h53]
      have e2 : nm = name := by rw [← HN.out, if_neg h53]
      subst e1 e2
      have hne : ¬ (t.toNat : Int) = 53 := fun e => h53 (UInt8.toNat_inj.1 (by show t.toNat = 53; omega))
      have hnb : ((t.toNat : Int) == 53) = false := by simpa using hne
      clear HM HN h53
      go_wp2_with fail
      go_meet
      case rel => exact ⟨rfl, rfl, rfl⟩
  case rest =>
    obtain ⟨rfl, rfl, rfl⟩ := hcut
    have hml : mode < 2097152 := by rw [← HM.out]; split <;> omega
    have hfit : Fits wids (textsL pre nm mode n t []) := by
      have f1 := fieldL_length (put_small (k := 6) (n := mode) (by omega))
      have f2 := fieldL_length (put_small (k := 6) (n := 0) (by omega))
      have f3 := fieldL_length (put_small (k := 10) (n := n) (by omega))
      have f4 := fieldL_length (put_small (k := 10) (n := 0) (by omega))
      exact ⟨hnml, by rw [f1]; omega, by rw [f2]; omega, by rw [f2]; omega, by rw [f3]; omega, by rw [f4]; omega, by simp, by simp, by simp, by simp [magicL], by simp, by simp, by rw [f2]; omega, by rw [f2]; omega, hl1, trivial⟩
    clear HM HN c1 hn1 hl2 hsp
    go_upto_region 7 with (fail)
    go_cut [8] from 9 (fun s8 wx => ∃ wb tb g, s8 = .pointer (some ⟨wb, 0, none⟩) ∧ PutAt w p t.toNat n wb tb g zeros512 wx)
    case first =>
      have hmk := make_block
      have kw := lt_block hb3
      go_region_held3 (fun _ => True) (trivial) (first | (go_at_call 33; refine (fill_any _ _ ?_).mono ?_; (rw [heap_drew, tab_zero]; first | exact new_at (by simp) | exact old_at (new_at (by simp))); rintro e W4 ⟨rfl, hT, hG⟩))
      all_goals go_wp2_with fail
      all_goals go_meet
      · rw [← tab_zero] at hG
        have r1 : ((wc.alloc (byteRow zeros512)).alloc (TabCells 0 0 0)).drew.heap[wc.heap.size]? = some (byteRow zeros512) := old_at (new_at rfl)
        have r2 : ((wc.alloc (byteRow zeros512)).alloc (TabCells 0 0 0)).drew.heap[w.heap.size]? = some (.cells #[.string p, .int .u8 t.toNat, .int .u64 n] 25 (0, 0)) := old_at (old_at hb3)
        exact ⟨_, _, _, rfl, putAt_mk2 r2 r1 (((hB3.alloc hB3.size _).alloc (by simp; omega) _).drew) hG hT (by omega) kw (by omega) rfl⟩
      · rw [← tab_zero] at hG
        have r1 : ((wc.alloc (TabCells 0 0 0)).alloc (byteRow zeros512)).drew.heap[wc.heap.size + 1]? = some (byteRow zeros512) := new_at (by simp)
        have r2 : ((wc.alloc (TabCells 0 0 0)).alloc (byteRow zeros512)).drew.heap[w.heap.size]? = some (.cells #[.string p, .int .u8 t.toNat, .int .u64 n] 25 (0, 0)) := old_at (old_at hb3)
        exact ⟨_, _, _, rfl, putAt_mk2 r2 r1 (((hB3.alloc hB3.size _).alloc (by simp; omega) _).drew) hG hT kw (by omega) (by omega) rfl⟩
      · have hz := hG.size
        simp at hz
        exact ⟨_, _, _, rfl, putAt_mk (old_at ((hG.block _ (by simp; omega) (by simp; omega)).trans (old_at hb3))) (new_at rfl) (old_at hT) ((below_grown ((hB3.alloc hB3.size _).drew) hG (by omega) (by simp; omega)).alloc (by omega) _) kw (by omega) (by omega) (by simp)⟩
    case rest =>
      obtain ⟨wb, tb, g, rfl, hP⟩ := hcut
      clear hb3 hB3
      go_upto_region 8 with (fail)
      go_cut [] from 9 (fun wx => PutAt w p t.toNat n wb tb g (flatW wids (textsL pre nm mode n t [])) wx)
      case first =>
        have hd2 := hP.d2
        have hd3 := hP.d3
        have KA : Hid (∀ W, Calls Tryz.prog 35 #[.int .i64 7, .int .u64 mode] W _) := Lib.hid fun W => octal_ok 7 (by omega) mode (by omega) (put_small (k := 6) (by omega)) W
        have KB : Hid (∀ W, Calls Tryz.prog 35 #[.int .i64 7, .int .u64 0] W _) := Lib.hid fun W => octal_ok 7 (by omega) 0 (by omega) (put_small (k := 6) (by omega)) W
        have KC : Hid (∀ W, Calls Tryz.prog 35 #[.int .i64 11, .int .u64 n] W _) := Lib.hid fun W => octal_ok 11 (by omega) n (by omega) (put_small (k := 10) (by omega)) W
        have KD : Hid (∀ W, Calls Tryz.prog 35 #[.int .i64 11, .int .u64 0] W _) := Lib.hid fun W => octal_ok 11 (by omega) 0 (by omega) (put_small (k := 10) (by omega)) W
        have KS := Lib.hid (set_texts wb tb g pre nm mode n t hfit hd2 hd3)
        refine wp_region_inv (by kernel_rfl) (by kernel_rfl) 24 (by decide) (fun x => { tmps := #[.agg #[.string p, .int .u8 t.toNat, .int .u64 n], .pointer (some ⟨w.heap.size, 0, none⟩), .string ⟨#[]⟩, .int .i64 0, .string ⟨pre.toArray⟩, .string ⟨nm.toArray⟩, .int .i64 0, .int .u64 mode, .pointer (some ⟨wb, 0, none⟩), u9, u10, u11, u12, u13, u14, u15, u16, u17, u18, u19, u20, u21, u22, u23, u24, u25, u26, u27, u28, u29, u30, x 0, x 1, x 2, x 3, x 4, x 5, x 6, x 7, x 8, x 9, x 10, x 11, x 12, x 13, x 14, x 15, x 16, x 17, x 18, x 19, x 20, x 21, x 22, x 23, x 24, u56, u57, u58, u59, u60, u61, u62, u63, u64, u65, u66, u67, u68, u69, u70, u71, u72, u73], defers := [] }) (fun k => #[u31, u32, u33, u34, u35, u36, u37, u38, u39, u40, u41, u42, u43, u44, u45, u46, u47, u48, u49, u50, u51, u52, u53, u54, u55].getD k undef) (PutC w wb tb g pre nm mode n t) (fun b W => PutAt w p t.toNat n wb tb g (if b = true then flatW wids (textsL pre nm mode n t []) else zeros512) W) hP.drew ?hput ?hstep ?hdone
        case hput =>
          intro k o ho x v
          have hk : k < 25 := (Array.getElem?_eq_some_iff.1 ho).1
          obtain rfl | rfl | rfl | rfl | rfl | rfl | rfl | rfl | rfl | rfl | rfl | rfl | rfl | rfl | rfl | rfl | rfl | rfl | rfl | rfl | rfl | rfl | rfl | rfl | rfl : k = 0 ∨ k = 1 ∨ k = 2 ∨ k = 3 ∨ k = 4 ∨ k = 5 ∨ k = 6 ∨ k = 7 ∨ k = 8 ∨ k = 9 ∨ k = 10 ∨ k = 11 ∨ k = 12 ∨ k = 13 ∨ k = 14 ∨ k = 15 ∨ k = 16 ∨ k = 17 ∨ k = 18 ∨ k = 19 ∨ k = 20 ∨ k = 21 ∨ k = 22 ∨ k = 23 ∨ k = 24 := by omega
          all_goals (obtain rfl := Option.some.inj (show some _ = some o from ho); rfl)
        case hstep =>
          intro k o ho x W b hd hW hl K hK
          have hk : k < 25 := (Array.getElem?_eq_some_iff.1 ho).1
          obtain rfl | rfl | rfl | rfl | rfl | rfl | rfl | rfl | rfl | rfl | rfl | rfl | rfl | rfl | rfl | rfl | rfl | rfl | rfl | rfl | rfl | rfl | rfl | rfl | rfl : k = 0 ∨ k = 1 ∨ k = 2 ∨ k = 3 ∨ k = 4 ∨ k = 5 ∨ k = 6 ∨ k = 7 ∨ k = 8 ∨ k = 9 ∨ k = 10 ∨ k = 11 ∨ k = 12 ∨ k = 13 ∨ k = 14 ∨ k = 15 ∨ k = 16 ∨ k = 17 ∨ k = 18 ∨ k = 19 ∨ k = 20 ∨ k = 21 ∨ k = 22 ∨ k = 23 ∨ k = 24 := by omega
          · obtain rfl := Option.some.inj (show some _ = some o from ho)
            clear hd ho hk
            go_simp
            exact hK _ W (PutC.plain rfl (by decide) (by decide)) (fun _ _ h => h) hW
          · obtain rfl := Option.some.inj (show some _ = some o from ho)
            have d0 : x 0 = .pointer (some ⟨wb, 0, none⟩) := (hd ⟨0, .data⟩ (by simp) rfl).1
            clear hd ho hk
            go_simp
            have hh := hK _ W (PutC.plain rfl (by decide) (by decide)) (fun _ _ h => h) hW
            rw [d0] at hh
            exact hh
          · obtain rfl := Option.some.inj (show some _ = some o from ho)
            have d1 : x 1 = .pointer (some ⟨wb, 0, none⟩) := (hd ⟨1, .data⟩ (by simp) rfl).1
            clear hd ho hk
            go_simp
            have hh := hK _ W (PutC.plain rfl (by decide) (by decide)) (fun _ _ h => h) hW
            rw [d1] at hh
            exact hh
          · obtain rfl := Option.some.inj (show some _ = some o from ho)
            clear hd ho hk
            go_simp
            exact hK _ W (PutC.plain rfl (by decide) (by decide)) (fun _ _ h => h) hW
          · obtain rfl := Option.some.inj (show some _ = some o from ho)
            have d3 : x 3 = .pointer (some ⟨wb, 0, none⟩) := (hd ⟨3, .data⟩ (by simp) rfl).1
            clear hd ho hk
            go_simp
            have hh := hK _ W (PutC.plain rfl (by decide) (by decide)) (fun _ _ h => h) hW
            rw [d3] at hh
            exact hh
          · obtain rfl := Option.some.inj (show some _ = some o from ho)
            have d4 : x 4 = .pointer (some ⟨wb, 0, none⟩) := (hd ⟨4, .data⟩ (by simp) rfl).1
            clear hd ho hk
            go_simp
            have hh := hK _ W (PutC.plain rfl (by decide) (by decide)) (fun _ _ h => h) hW
            rw [d4] at hh
            exact hh
          · obtain rfl := Option.some.inj (show some _ = some o from ho)
            have d5 : x 5 = .pointer (some ⟨wb, 1, none⟩) := (hd ⟨5, .data⟩ (by simp) rfl).1
            clear hd ho hk
            have cc := hW.c1
            go_simp
            have hh := hK _ W (PutC.plain rfl (by decide) (by decide)) (fun _ _ h => h) hW
            rw [d5] at hh
            exact hh
          · obtain rfl := Option.some.inj (show some _ = some o from ho)
            clear hd ho hk
            go_simp
            exact hK _ W (PutC.plain rfl (by decide) (by decide)) (fun _ _ h => h) hW
          · obtain rfl := Option.some.inj (show some _ = some o from ho)
            clear hd ho hk
            go_simp
            exact hK _ W (PutC.plain rfl (by decide) (by decide)) (fun _ _ h => h) hW
          · obtain rfl := Option.some.inj (show some _ = some o from ho)
            have d8 : x 8 = .int .u64 mode := (hd ⟨8, .data⟩ (by simp) rfl).1
            clear hd ho hk
            go_simp
            go_wp2_with (go_at_call 35; refine (KA.out _).mono ?_; rintro e W4 ⟨rfl, hB⟩)
            have hh := hK _ W4 (PutC.plain rfl (by decide) (by decide)) (PutC.grown (grown_of_below hB)) (hW.below hB)
            rw [d8] at hh
            exact hh
          · obtain rfl := Option.some.inj (show some _ = some o from ho)
            clear hd ho hk
            go_simp
            go_wp2_with (go_at_call 35; refine (KB.out _).mono ?_; rintro e W4 ⟨rfl, hB⟩)
            exact hK _ W4 (PutC.plain rfl (by decide) (by decide)) (PutC.grown (grown_of_below hB)) (hW.below hB)
          · obtain rfl := Option.some.inj (show some _ = some o from ho)
            clear hd ho hk
            go_simp
            go_wp2_with (go_at_call 35; refine (KB.out _).mono ?_; rintro e W4 ⟨rfl, hB⟩)
            exact hK _ W4 (PutC.plain rfl (by decide) (by decide)) (PutC.grown (grown_of_below hB)) (hW.below hB)
          · obtain rfl := Option.some.inj (show some _ = some o from ho)
            clear hd ho hk
            go_simp
            exact hK _ W (PutC.plain rfl (by decide) (by decide)) (fun _ _ h => h) hW
          · obtain rfl := Option.some.inj (show some _ = some o from ho)
            have d12 : x 12 = .pointer (some ⟨w.heap.size, 2, none⟩) := (hd ⟨12, .data⟩ (by simp) rfl).1
            clear hd ho hk
            have cc := hW.cn
            go_simp
            have hh := hK _ W (PutC.plain rfl (by decide) (by decide)) (fun _ _ h => h) hW
            rw [d12] at hh
            exact hh
          · obtain rfl := Option.some.inj (show some _ = some o from ho)
            have d13 : x 13 = .int .u64 n := (hd ⟨13, .data⟩ (by simp) rfl).1
            clear hd ho hk
            go_simp
            go_wp2_with (go_at_call 35; refine (KC.out _).mono ?_; rintro e W4 ⟨rfl, hB⟩)
            have hh := hK _ W4 (PutC.plain rfl (by decide) (by decide)) (PutC.grown (grown_of_below hB)) (hW.below hB)
            rw [d13] at hh
            exact hh
          · obtain rfl := Option.some.inj (show some _ = some o from ho)
            clear hd ho hk
            go_simp
            go_wp2_with (go_at_call 35; refine (KD.out _).mono ?_; rintro e W4 ⟨rfl, hB⟩)
            exact hK _ W4 (PutC.plain rfl (by decide) (by decide)) (PutC.grown (grown_of_below hB)) (hW.below hB)
          · obtain rfl := Option.some.inj (show some _ = some o from ho)
            clear hd ho hk
            go_simp
            exact hK _ W (PutC.plain rfl (by decide) (by decide)) (fun _ _ h => h) hW
          · obtain rfl := Option.some.inj (show some _ = some o from ho)
            have d16 : x 16 = .pointer (some ⟨w.heap.size, 1, none⟩) := (hd ⟨16, .data⟩ (by simp) rfl).1
            clear hd ho hk
            have cc := hW.ct
            go_simp
            have hh := hK _ W (PutC.plain rfl (by decide) (by decide)) (fun _ _ h => h) hW
            rw [d16] at hh
            exact hh
          · obtain rfl := Option.some.inj (show some _ = some o from ho)
            have d17 : x 17 = .int .u8 t.toNat := (hd ⟨17, .data⟩ (by simp) rfl).1
            clear hd ho hk
            go_simp
            have hh := hK _ _ ⟨trivial, fun _ => ⟨W.heap.size, rfl, World.alloc_heap_new W _, by have := lt_block hW.row; omega⟩, fun e => by cases e⟩ (PutC.grown (grown_alloc (World.grownBy.refl _ _) _)) (hW.alloc _)
            rw [d17] at hh
            exact hh
          · obtain rfl := Option.some.inj (show some _ = some o from ho)
            obtain ⟨g1, d18, hg1, hg1n⟩ := (hd ⟨18, .data⟩ (by simp) rfl).2.1 rfl
            clear hd ho hk
            have cc := conv_one hg1
            go_simp
            have hh := hK _ W (PutC.plain rfl (by decide) (by decide)) (fun _ _ h => h) hW
            rw [d18] at hh
            exact hh
          · obtain rfl := Option.some.inj (show some _ = some o from ho)
            clear hd ho hk
            go_simp
            go_wp2_with (go_at_call 35; refine (KB.out _).mono ?_; rintro e W4 ⟨rfl, hB⟩)
            exact hK _ W4 (PutC.plain rfl (by decide) (by decide)) (PutC.grown (grown_of_below hB)) (hW.below hB)
          · obtain rfl := Option.some.inj (show some _ = some o from ho)
            clear hd ho hk
            go_simp
            go_wp2_with (go_at_call 35; refine (KB.out _).mono ?_; rintro e W4 ⟨rfl, hB⟩)
            exact hK _ W4 (PutC.plain rfl (by decide) (by decide)) (PutC.grown (grown_of_below hB)) (hW.below hB)
          · obtain rfl := Option.some.inj (show some _ = some o from ho)
            clear hd ho hk
            go_simp
            exact hK _ W (PutC.plain rfl (by decide) (by decide)) (fun _ _ h => h) hW
          · obtain rfl := Option.some.inj (show some _ = some o from ho)
            have d7 : x 7 = .string ⟨(nm).toArray⟩ := (hd ⟨7, .data⟩ (by simp) rfl).1
            have d9 : x 9 = .string ⟨(fieldL 7 mode).toArray⟩ := (hd ⟨9, .data⟩ (by simp) rfl).1
            have d10 : x 10 = .string ⟨(fieldL 7 0).toArray⟩ := (hd ⟨10, .data⟩ (by simp) rfl).1
            have d11 : x 11 = .string ⟨(fieldL 7 0).toArray⟩ := (hd ⟨11, .data⟩ (by simp) rfl).1
            have d14 : x 14 = .string ⟨(fieldL 11 n).toArray⟩ := (hd ⟨14, .data⟩ (by simp) rfl).1
            have d15 : x 15 = .string ⟨(fieldL 11 0).toArray⟩ := (hd ⟨15, .data⟩ (by simp) rfl).1
            have d19 : x 19 = .string ⟨#[t]⟩ := (hd ⟨19, .data⟩ (by simp) rfl).1
            have d20 : x 20 = .string ⟨(fieldL 7 0).toArray⟩ := (hd ⟨20, .data⟩ (by simp) rfl).1
            have d21 : x 21 = .string ⟨(fieldL 7 0).toArray⟩ := (hd ⟨21, .data⟩ (by simp) rfl).1
            have d22 : x 22 = .string ⟨(pre).toArray⟩ := (hd ⟨22, .data⟩ (by simp) rfl).1
            clear hd ho hk
            go_simp
            have hh := hK _ _ ⟨trivial, (fun e => by cases e), fun _ => ⟨W.heap.size, rfl, World.alloc_heap_new W _, by have := lt_block hW.row; omega⟩⟩ (PutC.grown (grown_alloc (World.grownBy.refl _ _) _)) (hW.alloc _)
            rw [d7, d9, d10, d11, d14, d15, d19, d20, d21, d22] at hh
            exact hh
          · obtain rfl := Option.some.inj (show some _ = some o from ho)
            have d2 : x 2 = .pointer (some ⟨wb, 0, none⟩) := (hd ⟨2, .data⟩ (by simp) rfl).1
            have d6 : x 6 = .pointer (some ⟨tb, 0, none⟩) := (hd ⟨6, .data⟩ (by simp) rfl).1
            obtain ⟨h2, d23, hh2, hh2n⟩ := (hd ⟨23, .data⟩ (by simp) rfl).2.2 rfl
            clear hd ho hk
            obtain rfl := hl rfl
            have KS2 := Lib.hid (KS.out W h2 hW.block hW.tab hh2)
            go_simp
            go_wp2_with (go_at_call 34; refine KS2.out.mono ?_; rintro e W4 ⟨rfl, hR, hG⟩)
            have hh := hK (.tuple #[]) W4 (PutC.plain trivial (by decide) (by decide)) (PutC.grown hG) (hW.grown hG hR)
            rw [d2, d6, d23] at hh
            exact hh
        case hdone =>
          intro x W hW
          go_wp2_with fail
          go_meet
          case rel => exact hW
      case rest =>
        clear hP
        go_upto_region 9 with (fail)
        go_cut [] from 9 (fun wx => PutAt w p t.toNat n wb tb g (summedL (flatW wids (textsL pre nm mode n t []))) wx)
        case first =>
          have hw9 : (flatW wids (textsL pre nm mode n t [])).length = 512 := by rw [flatW_length _ _ hfit]; rfl
          have hs9 : sumX (flatW wids (textsL pre nm mode n t [])) < 262144 := by
            have := sumB_le (flatW wids (textsL pre nm mode n t []))
            unfold sumX; omega
          obtain ⟨l, hl⟩ : ∃ l, flatW wids (textsL pre nm mode n t []) = l := ⟨_, rfl⟩
          rw [hl] at hcut hw9 hs9
          replace hl := Lib.hid hl
          have hcl : (checkL (sumX l)).length = 8 := by
            rw [checkL, List.length_append, fieldL_length (put_small (k := 5) (by omega))]; rfl
          go_region_held3 (fun w' => w'.cell? ⟨wb, 0, none⟩ = some (.slice (some ⟨g, 0, none⟩) 512 512))
            (first | exact t5 | exact hcut.drew.block.x | exact (setRow_cell hcut.d2).trans t5)
            (first | (go_at_call 37; refine (sum_any wb g l hw9 _ hcut.drew.block).mono ?_; rintro e W4 ⟨rfl, hB⟩; have t4 := hcut.drew.below hB; have t5 := t4.block.x) | (go_at_call 36; refine (check_any (sumX l) hs9 _).mono ?_; rintro e W5 ⟨rfl, hB5⟩; replace t4 := t4.below hB5; have t5 := t4.block.x; have t6 := copy_at (off := 148) (dLen := 364) (cap := 364) (ty := 3) (l := l) (s := checkL (sumX l)) t4.row (by rw [hcl]; omega) (by rw [hcl, hw9]; omega)))
          go_wp2_with fail
          go_meet
          case rel => exact t4.grown setRow_grown (by rw [hl.out]; exact setRow_row t4.row)
        case rest =>
          have hw9 : (summedL (flatW wids (textsL pre nm mode n t []))).length = 512 := by
            have h1 : (flatW wids (textsL pre nm mode n t [])).length = 512 := by rw [flatW_length _ _ hfit]; rfl
            have hs9 : sumX (flatW wids (textsL pre nm mode n t [])) < 262144 := by
              have := sumB_le (flatW wids (textsL pre nm mode n t []))
              unfold sumX; omega
            have h2 : (checkL (sumX (flatW wids (textsL pre nm mode n t [])))).length = 8 := by
              rw [checkL, List.length_append, fieldL_length (put_small (k := 5) (by omega))]; rfl
            rw [summedL, setAt_length (by rw [h1, h2]; omega), h1]
          have cx := hcut.block.x
          have cv := conv_part (n := 0) (k := 512) (cap := 512) hcut.row (by omega)
          rw [List.drop_zero, List.take_of_length_le (by omega)] at cv
          have hbel := hcut.bel
          clear hcut
          go_wp2_with fail
          go_ret2
          exact ⟨rfl, hbel⟩
end Go.Proofs.YtkfaejnpgdbhlaaGreatDoor
