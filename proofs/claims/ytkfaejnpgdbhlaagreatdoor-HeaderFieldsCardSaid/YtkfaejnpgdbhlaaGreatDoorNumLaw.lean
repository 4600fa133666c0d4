/-
  The functions of package num that stand on Put and Get (Field, Read), by contract; and what Own answers.
-/
import Derived.Test.YtkfaejnpgdbhlaaGreatDoorNumPut
import Derived.Test.YtkfaejnpgdbhlaaGreatDoorNumGet
import Derived.Test.YtkfaejnpgdbhlaaGreatDoorNumSum
import Derived.Test.YtkfaejnpgdbhlaaGreatDoorShelf
import Derived.WalkLawsBesides
namespace Go.Proofs.YtkfaejnpgdbhlaaGreatDoor
open Go.RowKit

theorem putL_length (b n : Nat) : (putL b n).length = (rdig b n).length := by simp [putL]

set_option maxRecDepth 100000 in
theorem Field_bad (width : Int) (h : width < 1 ∨ 20 < width) (n : Nat) (hn : n < 18446744073709551616) (w : World) {a1 a2 : Addr} (hE : NumErrs w a1 a2) :
    Calls Tryz.prog 59 #[.int .i64 width, .int .u64 n] w fun e w' => e = .returned (.tuple #[.string ⟨#[]⟩, .int .i64 2]) ∧ Below w.heap.size w w' := by
  have hp : Calls Tryz.prog 90 #[.int .i64 8, .int .u64 n] w _ := Put_base 8 (by omega) n hn w
  rcases h with h | h
  · go_enter Tryz.func59, Tryz.ntmps59
    go_wp2_with fail
    refine hp.mono ?_
    rintro e w1 ⟨rfl, hB⟩
    have e1 := (hE.below hB).base
    have ht := told_base w1 (hE.below hB)
    clear hp
    go_wp2_with fail
    refine ht.mono ?_
    rintro e w2 ⟨rfl, rfl⟩
    clear ht
    go_wp2_with fail
    go_ret2
    exact ⟨rfl, hB⟩
  · have h1 : ¬ width < 1 := by omega
    go_enter Tryz.func59, Tryz.ntmps59
    go_wp2_with fail
    refine hp.mono ?_
    rintro e w1 ⟨rfl, hB⟩
    have e1 := (hE.below hB).base
    have ht := told_base w1 (hE.below hB)
    clear hp
    go_wp2_with fail
    refine ht.mono ?_
    rintro e w2 ⟨rfl, rfl⟩
    clear ht
    go_wp2_with fail
    go_ret2
    exact ⟨rfl, hB⟩

set_option maxRecDepth 100000 in
theorem Field_num (width : Nat) (h : 1 ≤ width ∧ width ≤ 20) (n : Nat) (hn : n < 18446744073709551616) (hl : width < (putL 8 n).length) (w : World) {a1 a2 : Addr} (hE : NumErrs w a1 a2) :
    Calls Tryz.prog 59 #[.int .i64 width, .int .u64 n] w fun e w' => e = .returned (.tuple #[.string ⟨#[]⟩, .int .i64 30]) ∧ Below w.heap.size w w' := by
  have hp : Calls Tryz.prog 90 #[.int .i64 8, .int .u64 n] w _ := Put_base 8 (by omega) n hn w
  have hl2 : (putL 8 n).length ≤ 64 := by rw [putL_length]; exact rdig_length 8 n (by omega) hn
  generalize putL 8 n = l at *
  have h1 : ¬ (width : Int) < 1 := by omega
  have h20 : ¬ (20 : Int) < width := by omega
  go_enter Tryz.func59, Tryz.ntmps59
  go_wp2_with fail
  refine hp.mono ?_
  rintro e w1 ⟨rfl, hB⟩
  have e1 := (hE.below hB).num
  have ht := told_num w1 (hE.below hB)
  have hsz : (⟨l.toArray⟩ : ByteArray).size = l.length := rfl
  clear hp
  go_wp2_with fail
  refine ht.mono ?_
  rintro e w2 ⟨rfl, rfl⟩
  clear ht
  go_wp2_with fail
  go_ret2
  exact ⟨rfl, hB⟩

/-- The octal field of a width. -/
def fieldL (width n : Nat) : List UInt8 := List.replicate (width - (putL 8 n).length) 48 ++ putL 8 n

theorem repeat_zero (c : Nat) : Lib.repeatL [48] c = List.replicate c 48 := by
  induction c with
  | zero => rfl
  | succ c ih => rw [Lib.repeatL, ih]; rfl

set_option maxRecDepth 100000 in
theorem Field_ok (width : Nat) (h : 1 ≤ width ∧ width ≤ 20) (n : Nat) (hn : n < 18446744073709551616) (hl : (putL 8 n).length ≤ width) (w : World) :
    Calls Tryz.prog 59 #[.int .i64 width, .int .u64 n] w fun e w' => e = .returned (.tuple #[.string ⟨(fieldL width n).toArray⟩, .int .i64 0]) ∧ Below w.heap.size w w' := by
  have hp : Calls Tryz.prog 90 #[.int .i64 8, .int .u64 n] w _ := Put_base 8 (by omega) n hn w
  unfold fieldL
  generalize putL 8 n = l at *
  have h1 : ¬ (width : Int) < 1 := by omega
  have h20 : ¬ (20 : Int) < width := by omega
  obtain ⟨c, hc⟩ : ∃ c, c = width - l.length := ⟨_, rfl⟩
  have hz := Lib.repeatL_length [48] c
  have hz2 : (Lib.repeatL [48] c).length ≤ 20 := by simp at hz; omega
  have hcc : c ≤ 20 := by omega
  have HC := Lib.hid (show (width : Int) - (l.length : Int) = c by omega)
  have hrep := fun w1 => Tryz.strings_Repeat ⟨#[48]⟩ c w1 (by omega) (by simp [ByteArray.size]; omega)
  rw [← hc, ← repeat_zero c]
  have e0 : (⟨(#[48] : Array UInt8)⟩ : ByteArray).data.toList = [48] := rfl
  rw [e0] at hrep
  generalize Lib.repeatL [48] c = r at *
  have hs1 : (⟨r.toArray⟩ : ByteArray).size + (⟨l.toArray⟩ : ByteArray).size ≤ 9223372036854775807 := by simp [ByteArray.size]; omega
  have hs2 := fun w2 => run_string_add_sum (P := Tryz.prog) w2 _ _ hs1
  have hap : (⟨r.toArray⟩ : ByteArray) ++ (⟨l.toArray⟩ : ByteArray) = ⟨(r ++ l).toArray⟩ := by
    apply ByteArray.ext; simp
  rw [hap] at hs2
  have HR := Lib.hid hrep
  clear hz hc hs1 hap hrep e0
  go_enter Tryz.func59, Tryz.ntmps59
  go_wp2_with fail
  refine hp.mono ?_
  rintro e w1 ⟨rfl, hB⟩
  clear hp
  go_wp2_with fail
  rw [HC.out]
  refine (HR.out _).mono ?_
  rintro e w2 ⟨rfl, hB2⟩
  go_wp2_with fail
  go_ret2
  exact ⟨rfl, hB.trans (hB2.mono hB.size)⟩

set_option maxRecDepth 100000 in
/-- Read of at most twenty bytes. -/
theorem Read_ok (s : ByteArray) (hs : s.size ≤ 20) (w : World) {a1 a2 : Addr} (hE : NumErrs w a1 a2) :
    Calls Tryz.prog 45 #[.string s] w fun e w' => e = .returned (GetRes (getN 8 s.data.toList)) ∧ Below w.heap.size w w' := by
  have hg : Calls Tryz.prog 72 #[.int .i64 8, .string s] w _ := Get_base 8 (by omega) s (by omega) w hE
  cases h : getN 8 s.data.toList with
  | none =>
    rw [h] at hg
    clear h
    go_enter Tryz.func45, Tryz.ntmps45
    go_wp2_with fail
    refine hg.mono ?_
    rintro e w1 ⟨rfl, hB⟩
    simp only [GetRes]
    go_wp2_with fail
    go_ret2
    exact ⟨rfl, hB⟩
  | some x =>
    rw [h] at hg
    clear h
    go_enter Tryz.func45, Tryz.ntmps45
    go_wp2_with fail
    refine hg.mono ?_
    rintro e w1 ⟨rfl, hB⟩
    simp only [GetRes]
    go_wp2_with fail
    go_ret2
    exact ⟨rfl, hB⟩

set_option maxRecDepth 100000 in
/-- Read of more bytes. -/
theorem Read_long (s : ByteArray) (hs : 20 < s.size) (hs2 : s.size ≤ 140737488351232) (w : World) {a1 a2 : Addr} (hE : NumErrs w a1 a2) :
    Calls Tryz.prog 45 #[.string s] w fun e w' => e = .returned (GetRes none) ∧ Below w.heap.size w w' := by
  have ht := told_num w hE
  have e2 := hE.num
  go_enter Tryz.func45, Tryz.ntmps45
  go_wp2_with fail
  refine ht.mono ?_
  rintro e w1 ⟨rfl, rfl⟩
  clear ht
  go_wp2_with fail
  go_ret2
  exact ⟨rfl, Below.refl _ _⟩

/-- What Read answers. -/
def readL (l : List UInt8) : Option Nat := if l.length ≤ 20 then getN 8 l else none

theorem Read_any (s : ByteArray) (hs2 : s.size ≤ 140737488351232) (w : World) {a1 a2 : Addr} (hE : NumErrs w a1 a2) :
    Calls Tryz.prog 45 #[.string s] w fun e w' => e = .returned (GetRes (readL s.data.toList)) ∧ Below w.heap.size w w' := by
  unfold readL
  by_cases h : s.size ≤ 20
  · rw [if_pos (by simpa using h)]
    exact Read_ok s h w hE
  · rw [if_neg (by simpa using h)]
    exact Read_long s (by omega) hs2 w hE

/-- What Own answers. -/
def ownN (b : Nat) (l : List UInt8) : Option Nat := match getN b l with | some x => if putL b x = l then some x else none | none => none

theorem gstep_lt {b x y : Nat} {c : UInt8} (hb : 2 ≤ b) (h : gstep b x c = some y) : y < 18446744073709551616 := by
  unfold gstep at h
  split at h
  · rename_i hc
    have := fit_le (by omega : 0 < b) (by have := codeDig_lt (lower c.toNat); unfold bdig; omega) hc.2.2
    simp only [Option.some.injEq] at h
    omega
  · cases h
theorem gfold_lt {b : Nat} (hb : 2 ≤ b) : ∀ (l : List UInt8) (x y : Nat), x < 18446744073709551616 → gfold b x l = some y → y < 18446744073709551616 := by
  intro l
  induction l with
  | nil => intro x y hx h; simp only [gfold, Option.some.injEq] at h; omega
  | cons c l ih =>
    intro x y hx h
    simp only [gfold] at h
    split at h
    · rename_i z hz
      exact ih z y (gstep_lt hb hz) h
    · cases h
theorem getN_lt {b x : Nat} {l : List UInt8} (hb : 2 ≤ b) (h : getN b l = some x) : x < 18446744073709551616 := by
  unfold getN at h
  split at h
  · cases h
  · exact gfold_lt hb l 0 x (by omega) h

theorem str_eq {s : ByteArray} {l : List UInt8} (h : l = s.data.toList) : (l == s.toList) = true := by rw [toList_data, h]; simp
theorem str_ne {s : ByteArray} {l : List UInt8} (h : ¬ l = s.data.toList) : (l == s.toList) = false := by rw [toList_data]; simpa using h
end Go.Proofs.YtkfaejnpgdbhlaaGreatDoor
