/-
  header.Put for every head, in one contract.
-/
import Derived.Test.YtkfaejnpgdbhlaaGreatDoorHeadShown
namespace Go.Proofs.YtkfaejnpgdbhlaaGreatDoor
open Go.RowKit

theorem bthen {w w1 w2 : World} (h : Below w.heap.size w w1) (k : Below w1.heap.size w1 w2) : Below w.heap.size w w2 := h.trans (k.mono h.size)

/-- What Put answers. -/
def PutRes : Option (List UInt8) → Value
  | some b => .tuple #[.string ⟨b.toArray⟩, .int .i64 0]
  | none => .tuple #[.string ⟨#[]⟩, .int .i64 81]

theorem putHL_some {p pre name : List UInt8} {t : UInt8} {n : Nat} (h : headL p t n = some (pre, name)) : putHL p t n = some (summedL (flatW wids (textsL pre (if t = 53 then name ++ [47] else name) (if t = 53 then 493 else 420) n t []))) := by
  unfold putHL; rw [h]; rfl

theorem PutH_any (p : ByteArray) (hs : p.size ≤ 1048576) (t : UInt8) (n : Nat) (w : World) {ea : Addr} (hE : PathErr w ea) :
    Calls Tryz.prog 17 #[headV p t.toNat n] w fun e w' => e = .returned (PutRes (putHL p.data.toList t n)) ∧ Below w.heap.size w w' := by
  cases h : headL p.data.toList t n with
  | none =>
    have e : putHL p.data.toList t n = none := by unfold putHL; rw [h]; rfl
    rw [e]
    exact PutH_none p hs t n h w hE
  | some pn =>
    obtain ⟨pre, name⟩ := pn
    rw [putHL_some h]
    exact PutH_some p hs t n pre name h w hE

/-- A head's texts fit their fields. -/
theorem texts_fit {p pre name : List UInt8} {t : UInt8} {n : Nat} (h : headL p t n = some (pre, name)) : Fits wids (textsL pre (if t = 53 then name ++ [47] else name) (if t = 53 then 493 else 420) n t []) := by
  obtain ⟨hsp, hn1, hn2⟩ := headL_some h
  obtain ⟨hl1, hl2⟩ := splitL_len hsp
  have hnml : (if t = 53 then name ++ [47] else name).length ≤ 100 := by
    split
    · rename_i e; have := hn1 e; simp; omega
    · exact hl2
  have hm : (if t = 53 then 493 else 420) < 2097152 := by split <;> omega
  have f1 := fieldL_length (put_small (k := 6) (n := if t = 53 then 493 else 420) (by omega))
  have f2 := fieldL_length (put_small (k := 6) (n := 0) (by omega))
  have f3 := fieldL_length (put_small (k := 10) (n := n) (by omega))
  have f4 := fieldL_length (put_small (k := 10) (n := 0) (by omega))
  exact ⟨hnml, by rw [f1]; omega, by rw [f2]; omega, by rw [f2]; omega, by rw [f3]; omega, by rw [f4]; omega, by simp, by simp, by simp, by simp [magicL], by simp, by simp, by rw [f2]; omega, by rw [f2]; omega, hl1, trivial⟩
theorem sum_small {l : List UInt8} (h : l.length = 512) : sumX l < 262144 := by
  have := sumB_le l
  unfold sumX; omega
theorem check_len {n : Nat} (h : n < 262144) : (checkL n).length = 8 := by
  rw [checkL, List.length_append, fieldL_length (put_small (k := 5) (by omega))]; rfl
theorem summed_len {l : List UInt8} (h : l.length = 512) : (summedL l).length = 512 := by
  rw [summedL, setAt_length (by rw [h, check_len (sum_small h)]; omega), h]
theorem putHL_len {p b : List UInt8} {t : UInt8} {n : Nat} (h : putHL p t n = some b) : b.length = 512 := by
  unfold putHL at h
  cases hh : headL p t n with
  | none => rw [hh] at h; cases h
  | some pn =>
    obtain ⟨pre, name⟩ := pn
    rw [hh] at h
    cases h
    exact summed_len (by rw [flatW_length _ _ (texts_fit hh)]; rfl)
end Go.Proofs.YtkfaejnpgdbhlaaGreatDoor
