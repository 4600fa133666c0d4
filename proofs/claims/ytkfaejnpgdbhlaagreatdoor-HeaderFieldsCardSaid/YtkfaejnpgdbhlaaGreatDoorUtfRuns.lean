/-
  Package utf's runes, all and Valid, by contract.
-/
import Derived.Test.YtkfaejnpgdbhlaaGreatDoorUtfDec
import Derived.Test.YtkfaejnpgdbhlaaGreatDoorRangeW
namespace Go.Proofs.YtkfaejnpgdbhlaaGreatDoor
open Go.RowKit

theorem udec_len {l : List UInt8} {r n : Nat} (h : udec l = some (r, n)) : 1 ≤ n ∧ n ≤ l.length := by
  unfold udec at h
  cases l with
  | nil => cases h
  | cons c t =>
    dsimp only at h
    split at h
    · cases h
    · rename_i k d _
      split at h
      · cases h
      · split at h
        · cases h
        · split at h
          · cases h; simp only [List.length_cons]; omega
          · cases h

/-- What is left behind all runes that bytes begin with. -/
def urest (l : List UInt8) : List UInt8 :=
  match _h : udec l with
  | some (_, n) => urest (l.drop n)
  | none => l
termination_by l.length
decreasing_by
  have := udec_len _h
  simp only [List.length_drop]; omega

theorem urest_none {l : List UInt8} (h : udec l = none) : urest l = l := by
  rw [urest]; split
  · rename_i h2; rw [h] at h2; cases h2
  · rfl
theorem urest_some {l : List UInt8} {r n : Nat} (h : udec l = some (r, n)) : urest l = urest (l.drop n) := by
  rw [urest]; split
  · rename_i h2; rw [h] at h2; cases h2; rfl
  · rename_i h2; rw [h] at h2; cases h2

theorem drop_bytes (t : ByteArray) (n : Nat) : (t.extract n t.size).data.toList = t.data.toList.drop n := by
  rw [sub_list, List.take_of_length_le (by simp)]

/-- What the iterator leans on. -/
def RunKp (p q : Nat) (W W' : World) : Prop := W'.heap[p]? = W.heap[p]? ∧ W'.heap[q]? = W.heap[q]?
/-- The reader holds a text. -/
def Reads (W : World) (q : Nat) (t : ByteArray) : Prop := W.heap[q]? = some (.cells #[.string t] 226 (0, 0))
/-- The text's size that the reader holds: for the loop's measure. -/
def readS (W : World) (q : Nat) : Nat := match (W.cell? ⟨q, 0, none⟩).getD undef with | .string t => t.size | _ => 0
theorem readS_of {W : World} {q : Nat} {t : ByteArray} (h : Reads W q t) : readS W q = t.size := by
  unfold readS; rw [cell_of_one h]; rfl

set_option maxRecDepth 100000 in
set_option maxHeartbeats 1000000 in
theorem runes_seq (p q : Nat) (s : ByteArray) (hs : s.size ≤ 140737488351232) (hne : p ≠ q) (w : World)
    (h1 : w.heap[p]? = some (.cells #[.pointer (some ⟨q, 0, none⟩)] 222 (0, 0))) (h2 : Reads w q s) :
    SeqW Tryz.prog 173 #[.pointer (some ⟨p, 0, none⟩)] (fun r : Nat => #[Value.int .i64 r]) (fun _ k => k = q)
      (fun _ => RunKp p q) (fun pre _ => pre.length < s.size) (fun _ W => ∃ t, Reads W q t ∧ t.data.toList = urest s.data.toList) (fun _ => True) w := by
  intro l J Jx W hW hJ hJx hY h0
  have k1 := (Array.getElem?_eq_some_iff.1 h1).1
  have k2 := (Array.getElem?_eq_some_iff.1 h2).1
  refine callsIn_of_wp Tryz.func173 rfl trivial ?_ rfl
  simp only [Tryz.ntmps173, List.size_toArray, List.length_cons, List.length_nil, Nat.reduceAdd, Nat.reduceSub, Array.replicate_succ, Array.replicate_zero, List.push_toArray, List.append_toArray, List.nil_append, List.cons_append]
  refine wpIn_wide.2 ?_
  go_wp2_with fail
  go_step3
  go_wp2_with fail
  go_step3
  go_wp2_with fail
  go_loopw [4] (fun _ wr => ∃ (pre : List Nat) (t : ByteArray), urest t.data.toList = urest s.data.toList ∧ pre.length + t.size ≤ s.size ∧ J pre wr ∧ wr.heap[p]? = some (.cells #[.pointer (some ⟨q, 0, none⟩)] 222 (0, 0)) ∧ Reads wr q t)
    (fun _ wr => readS wr q)
  case atStart => exact ⟨[], s, rfl, by simp, h0, (hW.block p k1).trans h1, (hW.block q k2).trans h2⟩
  case round =>
    obtain ⟨pre, t, hur, hlen, hJs, g1, g2⟩ := hrel
    have c1 := cell_of_one g1
    have c2 := cell_of_one g2
    have hD := Lib.hid (Decode_any t (by omega) wr)
    have HUR := Lib.hid hur
    have G2 := Lib.hid (readS_of g2)
    clear hur
    go_wp2_with fail
    refine hD.out.mono ?_
    rintro e W1 ⟨⟨c, hc, rfl⟩, hB1⟩
    have e1 : W1.heap[p]? = some (.cells #[.pointer (some ⟨q, 0, none⟩)] 222 (0, 0)) := (hB1.block p (Array.getElem?_eq_some_iff.1 g1).1).trans g1
    have e2 : Reads W1 q t := (hB1.block q (Array.getElem?_eq_some_iff.1 g2).1).trans g2
    have hJ1 := hJ _ _ _ hJs (Steps.of_below hB1)
    clear g1 g2 c1 c2 hD hJs hB1
    cases hu : udec t.data.toList with
    | none =>
      simp only [decRes]
      have hcc : (c != 0) = true := by simpa using hc
      have HU := Lib.hid hu
      clear hu hc
      go_wp2_with fail
      rw [Exit.noGoto_normal]
      go_end0
      exact ⟨⟨_, rfl⟩, .inl ⟨pre, ⟨t, e2, by rw [← HUR.out, urest_none HU.out]⟩, hJ1⟩⟩
    | some rn =>
      obtain ⟨r, n⟩ := rn
      simp only [decRes]
      have hn := udec_len hu
      have hln : t.data.toList.length = t.size := by simp
      rw [hln] at hn
      have HU := Lib.hid hu
      have d1 := cell_of_one e1
      have d2 := cell_of_one e2
      have d3 := free_of_one e2
      have b1 : (n : Int) ≤ t.size := by omega
      have b2 : (0 : Int) ≤ n := by omega
      clear hu hc hln
      go_wp2_with fail
      go_region
      obtain ⟨t', ht'⟩ : ∃ t', t.extract n t.size = t' := ⟨_, rfl⟩
      have hdt : t'.data.toList = t.data.toList.drop n := by rw [← ht']; exact drop_bytes t n
      have hsz : t'.size = t.size - n := by rw [← ht', ByteArray.size_extract]; omega
      rw [ht']
      have f1 : (W1.setCell ⟨q, 0, none⟩ (.string t')).drew.heap[p]? = some (.cells #[.pointer (some ⟨q, 0, none⟩)] 222 (0, 0)) := (Below.heap_setCell _ _ _ _ hne).trans e1
      have f2 : Reads (W1.setCell ⟨q, 0, none⟩ (.string t')).drew q t' := one_setCell (u := Value.string t') e2
      have hJ2 := hJ _ _ _ (hJ _ _ _ hJ1 (Steps.setCell W1 (a := ⟨q, 0, none⟩) (.string t') rfl)) (Steps.drew _)
      have HUR2 : Hid (urest t'.data.toList = urest s.data.toList) := Lib.hid (by rw [hdt, ← urest_some HU.out]; exact HUR.out)
      clear e1 e2 d1 d2 d3 hJ1 ht' hdt HU b1 b2
      generalize (W1.setCell ⟨q, 0, none⟩ (.string t')).drew = W2 at *
      obtain ⟨fn, tmps, assign, body, hy, hR⟩ := Yld.boolW (Kp := RunKp p q) (hY pre r W2 hJ2 (by omega) (fun k hk => by rw [hk]; exact (Array.getElem?_eq_some_iff.1 f2).1))
      go_step
      go_step
      refine (wpIn_wide (n := 9)).1 ?_
      gi_wp2_with (refine (hR _).mono ?_; rintro e W3 ⟨b, rfl, hA⟩)
      · rename_i hb
        obtain rfl : b = false := by simpa using hb
        rw [Exit.noGoto_normal]
        go_end0
        exact ⟨⟨_, rfl⟩, .inr ⟨_, trivial, hA.1⟩⟩
      · rename_i hb
        obtain rfl : b = true := by simpa using hb
        obtain ⟨hJ3, m1, m2⟩ := hA
        go_roundw
        case rel => exact ⟨pre ++ [r], t', HUR2.out, by simp; omega, hJ3, m1.trans f1, m2.trans f2⟩
        case measure => rw [readS_of (m2.trans f2), G2.out]; omega
end Go.Proofs.YtkfaejnpgdbhlaaGreatDoor
