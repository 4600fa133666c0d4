/-
  strings.SplitSeq at the separator '/', as an iterator: the pieces between the signs.
-/
import Derived.Test.YtkfaejnpgdbhlaaGreatDoorNumPut
import Derived.Test.YtkfaejnpgdbhlaaGreatDoorShelf
import Derived.Test.YtkfaejnpgdbhlaaGreatDoorUtfDec
import Derived.Test.YtkfaejnpgdbhlaaGreatDoorRangeW
import Derived.Lib.IndexLaws
import Derived.Deep.Cut
namespace Go.Proofs.YtkfaejnpgdbhlaaGreatDoor
open Go.RowKit Go.Shelf
attribute [local go_sem] Oper.semAt_some

/-- What stands between signs. -/
def cutsL : List UInt8 → List (List UInt8)
  | [] => [[]]
  | c :: l => if c = 47 then [] :: cutsL l else match cutsL l with
    | p :: r => (c :: p) :: r
    | [] => [[c]]

theorem cutsL_none : ∀ (l : List UInt8), Lib.indexByte l 47 = -1 → cutsL l = [l] := by
  intro l
  induction l with
  | nil => intro _; rfl
  | cons c l ih =>
    intro h
    have hg := Lib.indexByte_ge l 47
    simp only [Lib.indexByte] at h
    by_cases hc : c = 47
    · subst hc; simp at h
    · have hcb : (c == 47) = false := by simpa using hc
      rw [hcb] at h
      by_cases hm : Lib.indexByte l 47 = -1
      · simp only [cutsL, if_neg hc, ih hm]
      · have : (Lib.indexByte l 47 == -1) = false := by simpa using hm
        rw [this] at h
        simp at h; omega
theorem cutsL_some : ∀ (l : List UInt8) (m : Nat), Lib.indexByte l 47 = m → cutsL l = l.take m :: cutsL (l.drop (m + 1)) ∧ m < l.length := by
  intro l
  induction l with
  | nil => intro m h; simp [Lib.indexByte] at h
  | cons c l ih =>
    intro m h
    have hg := Lib.indexByte_ge l 47
    simp only [Lib.indexByte] at h
    by_cases hc : c = 47
    · subst hc; simp at h
      obtain rfl : m = 0 := by omega
      simp [cutsL]
    · have hcb : (c == 47) = false := by simpa using hc
      rw [hcb] at h
      by_cases hm : Lib.indexByte l 47 = -1
      · have : (Lib.indexByte l 47 == -1) = true := by simpa using hm
        rw [this] at h
        simp at h
      · have h1 : (Lib.indexByte l 47 == -1) = false := by simpa using hm
        rw [h1] at h
        simp at h
        obtain ⟨k, rfl⟩ : ∃ k, m = k + 1 := ⟨m - 1, by omega⟩
        have := ih k (by omega)
        simp only [cutsL, if_neg hc, this.1, List.take_succ_cons, List.drop_succ_cons, List.length_cons]
        exact ⟨trivial, by omega⟩

theorem take_bytes (t : ByteArray) (n : Nat) : t.extract 0 n = ⟨(t.data.toList.take n).toArray⟩ := by
  apply ByteArray.ext
  apply Array.toList_inj.1
  rw [show (t.extract 0 n).data.toList = _ from sub_list t 0 n]
  simp

/-- The three captured variables of the iterator. -/
structure SplitAt (W : World) (p q r : Nat) (t : ByteArray) : Prop where
  sep : W.heap[p]? = some (.cells #[.string ⟨#[47]⟩] 9 (0, 0))
  str : W.heap[q]? = some (.cells #[.string t] 9 (0, 0))
  save : W.heap[r]? = some (.cells #[.int .i64 0] 3 (0, 0))
/-- What the iterator leans on. -/
def SplitKp (p q r : Nat) (W W' : World) : Prop := W'.heap[p]? = W.heap[p]? ∧ W'.heap[q]? = W.heap[q]? ∧ W'.heap[r]? = W.heap[r]?
/-- The text's size that a block holds: for the loop's measure. -/
def strSize (W : World) (q : Nat) : Nat := match (W.cell? ⟨q, 0, none⟩).getD undef with | .string t => t.size | _ => 0
theorem strSize_of {W : World} {q : Nat} {t : ByteArray} {y : TypeId} (h : W.heap[q]? = some (.cells #[.string t] y (0, 0))) : strSize W q = t.size := by
  unfold strSize; rw [cell_of_one h]; rfl

set_option maxRecDepth 100000 in
set_option maxHeartbeats 1000000 in
theorem split_seq (p q r : Nat) (s : ByteArray) (hs : s.size ≤ 140737488351232) (hpq : p ≠ q) (hqr : q ≠ r) (w : World) (h1 : SplitAt w p q r s) :
    SeqW Tryz.prog 172 #[.pointer (some ⟨p, 0, none⟩), .pointer (some ⟨q, 0, none⟩), .pointer (some ⟨r, 0, none⟩)] (fun x : List UInt8 => #[Value.string ⟨x.toArray⟩]) (fun _ k => k = q)
      (fun _ => SplitKp p q r) (fun pre x => pre ++ [x] <+: cutsL s.data.toList) (fun xs _ => xs = cutsL s.data.toList) (fun _ => True) w := by
  intro l J Jx W hW hJ hJx hY h0
  have kp := (Array.getElem?_eq_some_iff.1 h1.sep).1
  have kq := (Array.getElem?_eq_some_iff.1 h1.str).1
  have kr := (Array.getElem?_eq_some_iff.1 h1.save).1
  have g1 := (hW.block p kp).trans h1.sep
  have c1 := cell_of_one g1
  refine callsIn_of_wp Tryz.func172 rfl trivial ?_ rfl
  simp only [Tryz.ntmps172, List.size_toArray, List.length_cons, List.length_nil, Nat.reduceAdd, Nat.reduceSub, Array.replicate_succ, Array.replicate_zero, List.push_toArray, List.append_toArray, List.nil_append, List.cons_append]
  refine wpIn_wide.2 ?_
  go_wp2_with fail
  go_loopw [7] (fun _ wr => ∃ (pre : List (List UInt8)) (t : ByteArray), pre ++ cutsL t.data.toList = cutsL s.data.toList ∧ t.size ≤ s.size ∧ J pre wr ∧ SplitAt wr p q r t)
    (fun _ wr => strSize wr q)
  case atStart => exact ⟨[], s, rfl, Nat.le_refl _, h0, ⟨g1, (hW.block q kq).trans h1.str, (hW.block r kr).trans h1.save⟩⟩
  case round =>
    obtain ⟨pre, t, hcut, hts, hJs, hS⟩ := hrel
    have d1 := cell_of_one hS.sep
    have d2 := cell_of_one hS.str
    have d3 := cell_of_one hS.save
    have K := Lib.hid (Tryz.strings_Index_one t 47 wr)
    have hge := Lib.indexByte_ge t.data.toList 47
    have HC := Lib.hid hcut
    clear hcut c1
    by_cases hm : Lib.indexByte t.data.toList 47 = -1
    · rw [hm] at K
      have hc1 := Lib.hid (cutsL_none _ hm)
      clear hm hge
      go_wp2_with fail
      refine K.out.mono ?_
      rintro e w' ⟨rfl, hw⟩
      replace hw := hw.symm
      subst hw
      go_upto_region 10 with (fail)
      refine (wpIn_wide (n := 9)).1 ?_
      obtain ⟨fn, tmps, assign, body, hy, hR⟩ := Yld.boolW (Kp := SplitKp p q r) (hY pre t.data.toList wr hJs (by rw [← HC.out, hc1.out]; exact List.prefix_rfl) (fun k hk => by rw [hk]; exact (Array.getElem?_eq_some_iff.1 hS.str).1))
      gi_wp2_with (refine (hR _).mono ?_; rintro e W3 ⟨b, rfl, hA⟩)
      go_end0
      refine ⟨⟨_, rfl⟩, ?_⟩
      cases b with
      | false => exact .inr ⟨_, trivial, hA.1⟩
      | true => exact .inl ⟨_, by rw [← HC.out, hc1.out], hA.1⟩
    · obtain ⟨k, hk⟩ : ∃ k : Nat, Lib.indexByte t.data.toList 47 = k := ⟨(Lib.indexByte t.data.toList 47).toNat, by omega⟩
      rw [hk] at K
      obtain ⟨hc1, hkl⟩ := cutsL_some _ k hk
      rw [Array.length_toList] at hkl
      have hks : k < t.size := hkl
      have hc1 := Lib.hid hc1
      have STR := Lib.hid (strSize_of hS.str)
      obtain ⟨f, hf⟩ : ∃ f, t.extract 0 k = f := ⟨_, rfl⟩
      have HF : Hid (f = ⟨(t.data.toList.take k).toArray⟩) := Lib.hid (by rw [← hf]; exact take_bytes t k)
      obtain ⟨t', ht'⟩ : ∃ t', t.extract (k + 1) t.size = t' := ⟨_, rfl⟩
      have HT : Hid (t'.data.toList = t.data.toList.drop (k + 1)) := Lib.hid (by rw [← ht', sub_list, List.take_of_length_le (by simp)])
      have HS : Hid (t'.size = t.size - (k + 1)) := Lib.hid (by rw [← ht', ByteArray.size_extract]; omega)
      have b1 : (k : Int) ≤ t.size := by omega
      have b2 : (0 : Int) ≤ k := by omega
      have b3 : (k : Int) + 1 ≤ t.size := by omega
      have b4 : ((k : Int) < 0) = False := by simp
      have b5 : ((k : Int) + 1).toNat = k + 1 := by omega
      clear hm hge hk hkl
      go_wp2_with fail
      refine K.out.mono ?_
      rintro e w' ⟨rfl, hw⟩
      replace hw := hw.symm
      subst hw
      clear K
      go_upto_region 8 with (fail)
      refine (wpIn_wide (n := 9)).1 ?_
      obtain ⟨fn, tmps, assign, body, hy, hR⟩ := Yld.boolW (Kp := SplitKp p q r) (hY pre (t.data.toList.take k) wr hJs (by rw [← HC.out, hc1.out]; exact ⟨_, by rw [List.append_assoc]; rfl⟩) (fun k hk => by rw [hk]; exact (Array.getElem?_eq_some_iff.1 hS.str).1))
      rw [← HF.out] at hy
      clear d1 d2 d3
      gi_wp2_with (
        refine (hR _).mono ?_
        rintro e W3 ⟨b, rfl, hA⟩
        cases b
        case' true =>
          obtain ⟨hJ3, m1, m2, m3⟩ := hA
          have d1 := cell_of_one (m1.trans hS.sep)
          have d2 := cell_of_one (m2.trans hS.str)
          have d4 := free_of_one (m2.trans hS.str))
      · have HJ := Lib.hid (hJ _ _ _ hJ3 (Steps.setCell W3 (a := ⟨q, 0, none⟩) (.string t') rfl))
        have HA : SplitAt (W3.setCell ⟨q, 0, none⟩ (.string t')) p q r t' := ⟨(Below.heap_setCell _ _ _ _ hpq).trans (m1.trans hS.sep), one_setCell (u := Value.string t') (m2.trans hS.str), (Below.heap_setCell _ _ _ _ (Ne.symm hqr)).trans (m3.trans hS.save)⟩
        clear hJ3 m1 m2 m3 hJs
        go_wp2_with fail
        go_roundw
        case rel => exact ⟨pre ++ [t.data.toList.take k], t', by rw [← HC.out, hc1.out, HT.out]; simp, by rw [HS.out]; omega, HJ.out, HA⟩
        case measure => rw [strSize_of HA.str, STR.out, HS.out]; omega
      · go_wp2_with fail
        first | (simp only [Exit.inBlock, Exit.then]; refine bodyPost_ret (results_none rfl _ _ _) rfl ?_) | refine bodyPost_ret (results_none rfl _ _ _) rfl ?_
        exact ⟨⟨_, rfl⟩, .inr ⟨_, trivial, hA.1⟩⟩
end Go.Proofs.YtkfaejnpgdbhlaaGreatDoor
