/-
  num.get by contract: the number that digits of a base tell, or one of the two errors.
-/
import Derived.Test.YtkfaejnpgdbhlaaGreatDoorNumTake
import Derived.Lib.OthersKept
import Derived.LoopTactic
import Derived.RangeFuncBound
import Derived.WalkSmall
namespace Go.Proofs.YtkfaejnpgdbhlaaGreatDoor
open Go.RowKit

/-- What get has read behind some bytes, having read x. -/
def bdig (c : UInt8) : Int := codeDig (lower c.toNat)
def gstep (b x : Nat) (c : UInt8) : Option Nat :=
  if 0 ≤ bdig c ∧ bdig c < b ∧ x ≤ (18446744073709551615 - (bdig c).toNat) / b then some (b * x + (bdig c).toNat) else none
def gfold (b : Nat) : Nat → List UInt8 → Option Nat
  | x, [] => some x
  | x, c :: r => match gstep b x c with | some y => gfold b y r | none => none

theorem gfold_append (b : Nat) (l r : List UInt8) : ∀ x, gfold b x (l ++ r) = match gfold b x l with | some y => gfold b y r | none => none := by
  induction l with
  | nil => intro x; rfl
  | cons c l ih =>
    intro x
    simp only [List.cons_append, gfold]
    cases gstep b x c with
    | none => rfl
    | some y => exact ih y

theorem bdig_hi (c : UInt8) (h : 128 ≤ c.toNat) : bdig c = -1 := by
  unfold bdig lower codeDig
  rw [if_neg (by omega : ¬ (65 ≤ (c.toNat : Int) ∧ (c.toNat : Int) ≤ 70)), if_neg (by omega), if_neg (by omega)]
theorem lower_hi (r : Int) (h : 128 ≤ r) : codeDig (lower r) = -1 := by
  unfold lower codeDig
  rw [if_neg (by omega : ¬ (65 ≤ r ∧ r ≤ 70)), if_neg (by omega), if_neg (by omega)]
theorem atDig_neg {b : Nat} {r : Int} (h : ¬ (0 ≤ codeDig r ∧ codeDig r < b)) : atDig b r = -1 := by
  unfold atDig
  have := codeDig_lt r
  split <;> omega
theorem atDig_pos {b : Nat} {r : Int} (h : 0 ≤ codeDig r ∧ codeDig r < b) : atDig b r = ((codeDig r).toNat : Nat) := by
  unfold atDig
  rw [if_pos h.2]; omega

/-- The number that digits of a base tell: at least one digit, and all fit. -/
def getN (b : Nat) (l : List UInt8) : Option Nat := if l = [] then none else gfold b 0 l

/-- What get hands back. -/
def getRes (a2 : Addr) : Option Nat → Value
  | some x => .tuple #[.int .u64 x, .nilIface]
  | none => .tuple #[.int .u64 0, .iface 252 (.pointer (some a2))]

theorem gfold_take_some {b : Nat} {s : ByteArray} {pos x y : Nat} (h : pos < s.size) (h1 : gfold b 0 (s.data.toList.take pos) = some x) (h2 : gstep b x s[pos] = some y) : gfold b 0 (s.data.toList.take (pos + 1)) = some y := by
  rw [take_snoc s pos h, gfold_append, h1]; simp [gfold, h2]
theorem getN_none {b : Nat} {s : ByteArray} {pos x : Nat} (h : pos < s.size) (h1 : gfold b 0 (s.data.toList.take pos) = some x) (h2 : gstep b x s[pos] = none) : getN b s.data.toList = none := by
  unfold getN
  split
  · rfl
  · have e : s.data.toList = s.data.toList.take (pos + 1) ++ s.data.toList.drop (pos + 1) := (List.take_append_drop _ _).symm
    rw [e, gfold_append, take_snoc s pos h, gfold_append, h1]; simp [gfold, h2]
theorem getN_some {b : Nat} {s : ByteArray} {pos x : Nat} (h0 : 0 < s.size) (h : ¬ pos < s.size) (h1 : gfold b 0 (s.data.toList.take pos) = some x) : getN b s.data.toList = some x := by
  unfold getN
  rw [List.take_of_length_le (by simp; omega)] at h1
  rw [if_neg (fun e => by have := congrArg List.length e; simp at this; rw [ByteArray.size] at h0; simp_all), h1]
theorem getN_empty {b : Nat} {s : ByteArray} (h0 : s.size = 0) : getN b s.data.toList = none := by
  unfold getN
  rw [if_pos (List.length_eq_zero_iff.1 (by simpa using h0))]

theorem toList_data (s : ByteArray) : s.toList = s.data.toList := ByteArray.toList_eq s

/-- The world in the loop: the reader's block, the iterator's block, nothing old turned. -/
def Mid (R B2 : Nat) (s : ByteArray) (b x pos : Nat) (w wr : World) : Prop :=
  wr.heap[R]? = some (.cells #[.int .u64 b, .string (digStr b), .int .u64 x] 193 (0, 0)) ∧ wr.heap[B2]? = some (.stringIter s pos) ∧ Below w.heap.size w wr ∧ w.heap.size ≤ R

theorem Mid.ok {R B2 b x y pos p' : Nat} {s : ByteArray} {w wr w' : World} {o : Obj} (h : Mid R B2 s b x pos w wr) (hne : R ≠ B2) (hb2 : w.heap.size ≤ B2)
    (h1 : w'.heap[R]? = some (.cells #[.int .u64 b, .string (digStr b), .int .u64 y] 193 (0, 0))) (h2 : ((wr.iterAt B2 s p').alloc o).grownBy w' (some R)) : Mid R B2 s b y p' w w' := by
  obtain ⟨hr, hi, hB, hR⟩ := h
  have hlt : B2 < wr.heap.size := (Array.getElem?_eq_some_iff.1 hi).1
  refine ⟨h1, ?_, ?_, hR⟩
  · rw [h2.block B2 (by simp [Lib.iterAt_size]; omega) (by simp; exact fun e => hne e.symm), Below.heap_alloc _ _ _ (by rw [Lib.iterAt_size]; exact hlt), Lib.iterAt_heap _ _ _ _ _ hi]
  · have hk : Below w.heap.size w (wr.iterAt B2 s p') := Lib.below_iterAt hB hb2 _ _
    exact ((hk.alloc hk.size _).grown h2 (by have := hk.size; simp; omega) (fun k e => by cases e; exact hR))

theorem Mid.facts {R B2 b x pos : Nat} {s : ByteArray} {w wr : World} (h : Mid R B2 s b x pos w wr) (hne : R ≠ B2) (hb2 : w.heap.size ≤ B2) (p' : Nat) (c : Value) (t : TypeId) :
    ((wr.iterAt B2 s p').alloc (.cells #[c] t)).heap[R]? = some (.cells #[.int .u64 b, .string (digStr b), .int .u64 x] 193 (0, 0)) ∧
    ((wr.iterAt B2 s p').alloc (.cells #[c] t)).cell? ⟨wr.heap.size, 0, none⟩ = some c ∧ Below w.heap.size w ((wr.iterAt B2 s p').alloc (.cells #[c] t)) := by
  obtain ⟨hr, hi, hB, hR⟩ := h
  have hlt : R < wr.heap.size := (Array.getElem?_eq_some_iff.1 hr).1
  have hk : Below w.heap.size w (wr.iterAt B2 s p') := Lib.below_iterAt hB hb2 _ _
  refine ⟨?_, ?_, hk.alloc hk.size _⟩
  · rw [Below.heap_alloc _ _ _ (by rw [Lib.iterAt_size]; exact hlt), Lib.iterAt_other _ _ _ _ _ hne, hr]
  · have := World.alloc_heap_new (wr.iterAt B2 s p') (.cells #[c] t)
    rw [Lib.iterAt_size] at this
    simp [World.cell?, this]

set_option maxRecDepth 100000 in
set_option maxHeartbeats 1000000 in
theorem get_base (b : Nat) (hb : b = 8 ∨ b = 10 ∨ b = 16) (s : ByteArray) (hs : s.size ≤ 140737488351232) (w : World) {a1 a2 : Addr} (hE : NumErrs w a1 a2) :
    Calls Tryz.prog 98 #[.int .i64 b, .string s] w fun e w' => e = .returned (getRes a2 (getN b s.data.toList)) ∧ Below w.heap.size w w' := by
  have hb16 : b ≤ 16 := by omega
  have hb2 : 2 ≤ b := by omega
  go_enter Tryz.func98, Tryz.ntmps98
  go_wp2_with fail
  refine (of_base b (by omega) _).mono ?_
  rintro e w1 ⟨rfl, hB1⟩
  go_wp2_with fail
  have hM : Mid (w1.heap.size + 1) (w1.heap.size + 1 + 1) s b 0 0 w (((w1.alloc (Obj.cells #[Value.int IntKind.u64 ↑b, Value.string (digStr b)] 172)).alloc
      (Obj.cells #[Value.int IntKind.u64 ↑b, Value.string (digStr b), Value.int IntKind.u64 0] 193)).iter s 0) := by
    refine ⟨?_, ?_, ?_, by have := hB1.size; omega⟩
    · rw [show ∀ (W : World), W.iter s 0 = W.alloc (.stringIter s 0) from fun _ => rfl, Below.heap_alloc _ _ _ (by simp)]
      have := World.alloc_heap_new (w1.alloc (Obj.cells #[Value.int IntKind.u64 ↑b, Value.string (digStr b)] 172)) (Obj.cells #[Value.int IntKind.u64 ↑b, Value.string (digStr b), Value.int IntKind.u64 0] 193)
      rw [World.size_alloc] at this
      exact this
    · have := World.iter_heap ((w1.alloc (Obj.cells #[Value.int IntKind.u64 ↑b, Value.string (digStr b)] 172)).alloc (Obj.cells #[Value.int IntKind.u64 ↑b, Value.string (digStr b), Value.int IntKind.u64 0] 193)) s 0
      rw [World.size_alloc, World.size_alloc] at this
      exact this
    · have hz := hB1.size
      exact ((hB1.alloc hz _).alloc (by simp; omega) _).alloc (by simp; omega) _
  have hsz := hB1.size
  obtain ⟨R, hR⟩ : ∃ R, R = w1.heap.size + 1 := ⟨_, rfl⟩
  rw [← hR] at hM
  generalize (((w1.alloc (Obj.cells #[Value.int IntKind.u64 ↑b, Value.string (digStr b)] 172)).alloc
      (Obj.cells #[Value.int IntKind.u64 ↑b, Value.string (digStr b), Value.int IntKind.u64 0] 193)).iter s 0) = W0 at hM ⊢
  rw [← hR]
  have hRw : w.heap.size < R := by omega
  clear hR
  go_loopw [10, 11] (fun _ _ wr => ∃ pos x : Nat, pos ≤ s.size ∧ Hid (gfold b 0 (s.data.toList.take pos) = some x) ∧ Mid R (R + 1) s b x pos w wr) (fun _ _ wr => s.size - wr.iterPos (R + 1))
  case atStart => exact ⟨0, 0, Nat.zero_le _, rfl, hM⟩
  case round =>
    obtain ⟨pos, x, hpos, hx, hM⟩ := hrel
    have hI := hM.2.1
    have hRR : R ≠ R + 1 := by omega
    have hwl : w.heap.size ≤ R + 1 := by omega
    have hsi : ∀ p', (wr.iterAt (R + 1) s p').heap.size = wr.heap.size := fun p' => Lib.iterAt_size _ _ _ _
    by_cases hlt : pos < s.size
    · by_cases ha : s[pos].toNat < 128
      · have hnx : ∀ ty, (Instr.next (.pointer (some ⟨R + 1, 0, none⟩)) true ty).run Tryz.prog wr = .ok (.tuple #[.bool true, .int .i64 pos, .int .i32 s[pos].toNat]) (wr.iterAt (R + 1) s (pos + 1)) := fun ty => Lib.run_next_ascii_at wr (R + 1) s pos ty hI hlt ha
        obtain ⟨f1, f2, f3⟩ := hM.facts hRR hwl (pos + 1) (.int .i32 s[pos].toNat) 21
        have HF := Lib.hid f1
        have HM := Lib.hid hM
        clear hM f1 hI
        have hp1 : wr.iterPos (R + 1) = pos := iterPos_of HM.out.2.1
        have HP := Lib.hid hp1
        clear hp1
        by_cases hd : 0 ≤ bdig s[pos] ∧ bdig s[pos] < b
        · by_cases hfit : x ≤ (18446744073709551615 - (bdig s[pos]).toNat) / b
          · have HG := Lib.hid (show gstep b x s[pos] = some (b * x + (bdig s[pos]).toNat) by unfold gstep; rw [if_pos ⟨hd.1, hd.2, hfit⟩])
            obtain ⟨t, ht⟩ : ∃ t, t = b * x + (bdig s[pos]).toNat := ⟨_, rfl⟩
            have hk := take_ok R wr.heap.size b hb16 hb2 x s[pos].toNat (by omega) (by omega) _ (hE.below f3) HF.out f2 (bdig s[pos]).toNat (atDig_pos hd) (by omega) t ht hfit
            rw [← ht] at HG
            clear ht hfit hd
            go_wp2_with fail
            refine hk.mono ?_
            rintro e w2 ⟨rfl, g1, g2⟩
            have hM2 := HM.out.ok hRR hwl g1 g2
            have hp2 : w2.iterPos (R + 1) = pos + 1 := iterPos_of hM2.2.1
            have HP2 := Lib.hid hp2
            clear hp2 g1 g2 hk hnx
            go_wp2_with fail
            go_roundw
            case rel => exact ⟨pos + 1, t, hlt, gfold_take_some hlt hx.out HG.out, hM2⟩
            case measure => rw [HP.out, HP2.out]; omega
          · have HG := Lib.hid (show gstep b x s[pos] = none by unfold gstep; rw [if_neg (fun h => hfit h.2.2)])
            have hk := take_big R wr.heap.size b hb16 hb2 x s[pos].toNat (by omega) (by omega) _ (hE.below f3) HF.out f2 (bdig s[pos]).toNat (atDig_pos hd) (by omega) (by omega)
            clear hfit hd
            go_wp2_with fail
            refine hk.mono ?_
            rintro e w2 ⟨rfl, g2⟩
            clear hk hnx
            go_wp2_with fail
            go_ret2
            exact ⟨by rw [getN_none hlt hx.out HG.out]; rfl, f3.trans (g2.mono f3.size)⟩
        · have HG := Lib.hid (show gstep b x s[pos] = none by unfold gstep; rw [if_neg (fun h => hd ⟨h.1, h.2.1⟩)])
          have hk := take_bad R wr.heap.size b hb16 x s[pos].toNat (by omega) (by omega) _ (hE.below f3) HF.out f2 (atDig_neg hd)
          clear hd
          go_wp2_with fail
          refine hk.mono ?_
          rintro e w2 ⟨rfl, g2⟩
          clear hk hnx
          go_wp2_with fail
          go_ret2
          exact ⟨by rw [getN_none hlt hx.out HG.out]; rfl, f3.trans (g2.mono f3.size)⟩
      · have hhi := decode_high s pos hlt (by omega)
        have hle := decode_le s pos
        have hbd := bdig_hi s[pos] (by omega)
        have HG := Lib.hid (show gstep b x s[pos] = none by unfold gstep; rw [if_neg (by omega)])
        have hnx : ∀ ty, (Instr.next (.pointer (some ⟨R + 1, 0, none⟩)) true ty).run Tryz.prog wr = .ok (.tuple #[.bool true, .int .i64 pos, .int .i32 (Utf8.decode s pos).1]) (wr.iterAt (R + 1) s (pos + (Utf8.decode s pos).2)) := fun ty => Lib.run_next_any_at wr (R + 1) s pos ty hI hlt
        generalize (Utf8.decode s pos).1 = rn at *
        generalize (Utf8.decode s pos).2 = wd at *
        obtain ⟨f1, f2, f3⟩ := hM.facts hRR hwl (pos + wd) (.int .i32 rn) 21
        have hk := take_bad R wr.heap.size b hb16 x rn (by omega) (by omega) _ (hE.below f3) f1 f2 (atDig_neg (by rw [lower_hi rn (by omega)]; omega))
        clear hM f1 hI hbd
        go_wp2_with fail
        refine hk.mono ?_
        rintro e w2 ⟨rfl, g2⟩
        clear hk hnx
        go_wp2_with fail
        go_ret2
        exact ⟨by rw [getN_none hlt hx.out HG.out]; rfl, f3.trans (g2.mono f3.size)⟩
    · have hnx : ∀ ty, (Instr.next (.pointer (some ⟨R + 1, 0, none⟩)) true ty).run Tryz.prog wr = .ok (.tuple #[.bool false]) wr := fun ty => Lib.run_next_end_at wr (R + 1) s pos ty hI hlt
      have hB3 := hM.2.2.1
      have e2 := (hE.below hB3).num
      have c2 : wr.cell? ⟨R, 2, none⟩ = some (.int .u64 x) := by simp [World.cell?, hM.1]
      by_cases h0 : s.size = 0
      · have hn := getN_empty (b := b) h0
        have hem : s.toList = [] := by rw [toList_data]; exact List.length_eq_zero_iff.1 (by simpa using h0)
        have HN := Lib.hid hn
        clear hn hM
        go_wp2
        go_quiet (fail)
        go_wp2
        go_ret2
        exact ⟨by rw [HN.out]; rfl, below_drewN hB3 _⟩
      · have HN := Lib.hid (getN_some (by omega) hlt hx.out)
        have hem : ¬ s.toList = [] := by rw [toList_data]; intro e; exact h0 (by have := congrArg List.length e; simpa using this)
        have hem2 : s.toList.isEmpty = false := by simpa using hem
        clear hM
        go_wp2
        go_ret2
        exact ⟨by rw [HN.out]; rfl, hB3⟩

set_option maxRecDepth 100000 in
theorem get_none (n : Int) (hw : (Lit.int .i64 n).wf = true) (h8 : n ≠ 8) (h10 : n ≠ 10) (h16 : n ≠ 16) (s : ByteArray) (w : World) {a1 a2 : Addr} (hE : NumErrs w a1 a2) :
    Calls Tryz.prog 98 #[.int .i64 n, .string s] w fun e w' => e = .returned (.tuple #[.int .u64 0, .iface 252 (.pointer (some a1))]) ∧ Below w.heap.size w w' := by
  have hk := of_none n hw h8 h10 h16 w hE
  clear h8 h10 h16 hw
  go_enter Tryz.func98, Tryz.ntmps98
  go_wp2_with fail
  refine hk.mono ?_
  rintro e w1 ⟨rfl, hB1⟩
  have hz := hB1.size
  go_wp2_with fail
  go_ret2
  exact ⟨rfl, hB1.alloc hz _⟩

/-- What Get hands back. -/
def GetRes : Option Nat → Value
  | some x => .tuple #[.int .u64 x, .int .i64 0]
  | none => .tuple #[.int .u64 0, .int .i64 30]

theorem Get_base (b : Nat) (hb : b = 8 ∨ b = 10 ∨ b = 16) (s : ByteArray) (hs : s.size ≤ 140737488351232) (w : World) {a1 a2 : Addr} (hE : NumErrs w a1 a2) :
    Calls Tryz.prog 72 #[.int .i64 b, .string s] w fun e w' => e = .returned (GetRes (getN b s.data.toList)) ∧ Below w.heap.size w w' := by
  have hk := get_base b hb s hs w hE
  clear hb
  cases hg : getN b s.data.toList with
  | none =>
    rw [hg] at hk
    clear hg
    go_enter Tryz.func72, Tryz.ntmps72
    go_wp2_with fail
    refine hk.mono ?_
    rintro e w1 ⟨rfl, hB1⟩
    simp only [getRes]
    go_wp2_with fail
    refine (told_num _ (hE.below hB1)).mono ?_
    rintro e w2 ⟨rfl, rfl⟩
    go_wp2_with fail
    go_ret2
    exact ⟨rfl, hB1⟩
  | some x =>
    rw [hg] at hk
    clear hg
    go_enter Tryz.func72, Tryz.ntmps72
    go_wp2_with fail
    refine hk.mono ?_
    rintro e w1 ⟨rfl, hB1⟩
    simp only [getRes]
    go_wp2_with fail
    refine (told_nil _ (hE.below hB1)).mono ?_
    rintro e w2 ⟨rfl, rfl⟩
    go_wp2_with fail
    go_ret2
    exact ⟨rfl, hB1⟩

theorem Get_none (n : Int) (hw : (Lit.int .i64 n).wf = true) (h8 : n ≠ 8) (h10 : n ≠ 10) (h16 : n ≠ 16) (s : ByteArray) (w : World) {a1 a2 : Addr} (hE : NumErrs w a1 a2) :
    Calls Tryz.prog 72 #[.int .i64 n, .string s] w fun e w' => e = .returned (.tuple #[.int .u64 0, .int .i64 2]) ∧ Below w.heap.size w w' := by
  have hk := get_none n hw h8 h10 h16 s w hE
  clear h8 h10 h16 hw
  go_enter Tryz.func72, Tryz.ntmps72
  go_wp2_with fail
  refine hk.mono ?_
  rintro e w1 ⟨rfl, hB1⟩
  go_wp2_with fail
  refine (told_base _ (hE.below hB1)).mono ?_
  rintro e w2 ⟨rfl, rfl⟩
  go_wp2_with fail
  go_ret2
  exact ⟨rfl, hB1⟩
end Go.Proofs.YtkfaejnpgdbhlaaGreatDoor
