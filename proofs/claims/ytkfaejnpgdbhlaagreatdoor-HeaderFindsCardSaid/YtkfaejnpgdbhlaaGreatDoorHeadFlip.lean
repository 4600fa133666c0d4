/-
  Plain facts on blocks: a byte that is another one is found by the sum; no program in sight but for the definitions of the walks.
-/
import Derived.Test.YtkfaejnpgdbhlaaGreatDoorHeadAll
namespace Go.Proofs.YtkfaejnpgdbhlaaGreatDoor
open Go.RowKit

theorem read_field6 {n : Nat} (hn : n < 262144) : readL (fieldL 6 n) = some n := by
  have hl : (putL 8 n).length ≤ 6 := put_small (k := 5) (by omega)
  unfold readL
  rw [if_pos (by rw [fieldL_length hl]; omega)]
  exact get_zeros (by omega) (by omega) _ n (by omega)
theorem checkL_inj {m n : Nat} (hm : m < 262144) (hn : n < 262144) (h : checkL m = checkL n) : m = n := by
  have e : fieldL 6 m = fieldL 6 n := List.append_cancel_right h
  have h1 := read_field6 hm
  rw [e, read_field6 hn] at h1
  exact (Option.some.inj h1).symm

theorem sumB_split {l : List UInt8} (_ : l.length = 512) : sumB l = sumB (l.take 148) + (sumB ((l.drop 148).take 8) + sumB (l.drop 156)) := by
  have e : l = l.take 148 ++ ((l.drop 148).take 8 ++ (l.drop 148).drop 8) := by rw [List.take_append_drop, List.take_append_drop]
  conv => lhs; rw [e]
  rw [sumB_append, sumB_append, List.drop_drop]
theorem sumX_split {l : List UInt8} (h : l.length = 512) : sumX l = sumB (l.take 148) + sumB (l.drop 156) + 256 := by
  unfold sumX
  have := sumB_split h
  omega
theorem sumB_set : ∀ (l : List UInt8) (i : Nat) (c : UInt8) (h : i < l.length), sumB (l.set i c) + l[i].toNat = sumB l + c.toNat := by
  intro l
  induction l with
  | nil => intro i c h; simp at h
  | cons a l ih =>
    intro i c h
    cases i with
    | zero => simp [sumB]; omega
    | succ i =>
      have := ih i c (by simpa using h)
      simp only [List.set_cons_succ, sumB, List.getElem_cons_succ]
      omega

theorem summed_parts {l : List UInt8} (h : l.length = 512) : (summedL l).take 148 = l.take 148 ∧ ((summedL l).drop 148).take 8 = checkL (sumX l) ∧ (summedL l).drop 156 = l.drop 156 := by
  have hc := check_len (sum_small h)
  unfold summedL setAt
  rw [hc]
  have hl : (l.take 148).length = 148 := by rw [List.length_take]; omega
  refine ⟨?_, ?_, ?_⟩
  · rw [List.append_assoc, List.take_left' hl]
  · rw [List.append_assoc, List.drop_left' hl, List.take_left' hc]
  · rw [List.drop_left' (by rw [List.length_append, hl, hc])]
theorem summed_sum {l : List UInt8} (h : l.length = 512) : sumX (summedL l) = sumX l := by
  obtain ⟨h1, _, h3⟩ := summed_parts h
  rw [sumX_split (summed_len h), sumX_split h, h1, h3]

theorem flip_gen {l B : List UInt8} (hl : l.length = 512) (hS : B.length = 512) (p2 : (B.drop 148).take 8 = checkL (sumX l)) (hsum : sumX B = sumX l) {i : Nat} (hi : i < 512) {c : UInt8} (hne : c ≠ B[i]) :
    ((B.set i c).drop 148).take 8 ≠ checkL (sumX (B.set i c)) := by
  have hne2 : c.toNat ≠ (B[i]'(by omega)).toNat := fun e => hne (UInt8.toNat_inj.1 e)
  have hBs : (B.set i c).length = 512 := by simpa using hS
  have hsm := sum_small hBs
  have hsm2 := sum_small hl
  rcases Nat.lt_or_ge i 148 with h | h
  · have e1 : ((B.set i c).drop 148).take 8 = checkL (sumX l) := by rw [List.drop_set, if_pos h, p2]
    have e2 : (B.set i c).drop 156 = B.drop 156 := by rw [List.drop_set, if_pos (by omega)]
    have e3 := sumB_set (B.take 148) i c (by rw [List.length_take]; omega)
    rw [List.getElem_take, ← List.take_set] at e3
    rw [e1]
    intro he
    have := checkL_inj hsm2 hsm he
    rw [sumX_split hBs, e2, ← hsum, sumX_split hS] at this
    omega
  · rcases Nat.lt_or_ge i 156 with h2 | h2
    · have e1 : ((B.set i c).drop 148).take 8 = ((B.drop 148).take 8).set (i - 148) c := by
        rw [List.drop_set, if_neg (by omega), List.take_set]
      have e2 : (B.set i c).drop 156 = B.drop 156 := by rw [List.drop_set, if_pos (by omega)]
      have e3 : (B.set i c).take 148 = B.take 148 := List.take_set_of_le (by omega)
      have e4 : sumX (B.set i c) = sumX B := by rw [sumX_split hBs, sumX_split hS, e2, e3]
      rw [e4, hsum, ← p2, e1]
      intro he
      have h5 := congrArg (fun l : List UInt8 => l[i - 148]?) he
      simp only [List.getElem?_set, List.length_take, List.length_drop] at h5
      rw [if_pos trivial, if_pos (by omega), List.getElem?_take_of_lt (by omega), List.getElem?_drop, show 148 + (i - 148) = i by omega, List.getElem?_eq_getElem (by omega)] at h5
      exact hne (Option.some.inj h5)
    · have e1 : ((B.set i c).drop 148).take 8 = checkL (sumX l) := by
        rw [List.drop_set, if_neg (by omega), List.take_set_of_le (by omega), p2]
      have e3 : (B.set i c).take 148 = B.take 148 := List.take_set_of_le (by omega)
      have e2 := sumB_set (B.drop 156) (i - 156) c (by rw [List.length_drop]; omega)
      rw [List.getElem_drop] at e2
      have e4 : (B.set i c).drop 156 = (B.drop 156).set (i - 156) c := by rw [List.drop_set, if_neg (by omega)]
      rw [e1]
      intro he
      have := checkL_inj hsm2 hsm he
      rw [sumX_split hBs, e3, e4, ← hsum, sumX_split hS] at this
      have key : ∀ (k : Nat) (hk : k < B.length), k = i → B[k] = B[i]'(by omega) := fun k hk e => by subst e; rfl
      have e5 : B[156 + (i - 156)]'(by omega) = B[i]'(by omega) := key _ _ (by omega)
      rw [e5] at e2
      omega

/-- One byte that is another one is found. -/
theorem flip_found {l B : List UInt8} (hl : l.length = 512) (hB : summedL l = B) (hS : B.length = 512) {i : Nat} (hi : i < 512) {c : UInt8} (hne : c ≠ B[i]) :
    ((B.set i c).drop 148).take 8 ≠ checkL (sumX (B.set i c)) := by
  subst hB
  exact flip_gen hl hS (summed_parts hl).2.1 (summed_sum hl) hi hne
end Go.Proofs.YtkfaejnpgdbhlaaGreatDoor
