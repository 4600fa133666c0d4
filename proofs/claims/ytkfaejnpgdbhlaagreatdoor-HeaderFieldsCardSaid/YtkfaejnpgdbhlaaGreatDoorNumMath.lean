/-
  Plain facts on digits and on the numbers that they tell; no program in sight but for the definitions of the walks.
-/
import Derived.Test.YtkfaejnpgdbhlaaGreatDoorNumLaw
namespace Go.Proofs.YtkfaejnpgdbhlaaGreatDoor
open Go.RowKit

theorem code_range (d : Nat) (h : d < 16) : (48 ≤ code d ∧ code d ≤ 57) ∨ (97 ≤ code d ∧ code d ≤ 102) := by unfold code; split <;> omega
theorem byte_toNat (d : Nat) (h : d < 16) : (UInt8.ofNat (code d)).toNat = code d := by
  have := code_range d h
  simp; omega
theorem bdig_code (d : Nat) (h : d < 16) : bdig (UInt8.ofNat (code d)) = d := by
  have hr := code_range d h
  have hl : lower ((UInt8.ofNat (code d)).toNat : Int) = code d := by
    rw [byte_toNat d h]; unfold lower; rw [if_neg (by omega)]
  unfold bdig
  rw [hl, code_dig d h]
theorem code_mono (c d : Nat) (hd : d < 16) : c < d ↔ code c < code d := by unfold code; split <;> split <;> omega
theorem code_inj (c d : Nat) (hc : c < 16) (hd : d < 16) (h : code c = code d) : c = d := by unfold code at h; split at h <;> split at h <;> omega

/-- The number that digits tell, behind x. -/
def value (b x : Nat) (l : List Nat) : Nat := l.foldl (fun a d => b * a + d) x

theorem value_append (b x : Nat) (l r : List Nat) : value b x (l ++ r) = value b (value b x l) r := by simp [value]
theorem value_ge {b : Nat} (hb : 1 ≤ b) : ∀ (l : List Nat) (x : Nat), x ≤ value b x l := by
  intro l
  induction l with
  | nil => intro x; simp [value]
  | cons d l ih =>
    intro x
    have h1 := ih (b * x + d)
    have h2 : x ≤ b * x := Nat.le_mul_of_pos_left x hb
    simp only [value, List.foldl_cons] at h1 ⊢
    omega
theorem value_eq (b : Nat) : ∀ (l : List Nat) (x : Nat), value b x l = x * b ^ l.length + value b 0 l := by
  intro l
  induction l with
  | nil => intro x; simp [value]
  | cons d l ih =>
    intro x
    have h1 := ih (b * x + d)
    have h2 := ih (b * 0 + d)
    simp only [value, List.foldl_cons, List.length_cons] at h1 h2 ⊢
    rw [h1, h2, Nat.pow_succ]
    simp only [Nat.mul_zero, Nat.zero_add, Nat.add_mul]
    rw [Nat.mul_comm b x, Nat.mul_assoc, Nat.mul_comm (b ^ l.length) b]
    omega
theorem value_lt {b : Nat} : ∀ (l : List Nat), (∀ d ∈ l, d < b) → value b 0 l < b ^ l.length := by
  intro l
  induction l with
  | nil => intro _; simp [value]
  | cons d l ih =>
    intro h
    have h1 := ih (fun x hx => h x (List.mem_cons_of_mem _ hx))
    have h2 := h d (List.mem_cons_self ..)
    have e : value b 0 (d :: l) = value b d l := by simp [value]
    rw [e, value_eq, List.length_cons, Nat.pow_succ]
    have h3 : (d + 1) * b ^ l.length ≤ b * b ^ l.length := Nat.mul_le_mul_right _ h2
    rw [Nat.add_mul, Nat.one_mul] at h3
    rw [Nat.mul_comm (b ^ l.length) b]
    omega

theorem gfold_value {b : Nat} (hb2 : 2 ≤ b) (hb : b ≤ 16) : ∀ (l : List Nat) (x : Nat), (∀ d ∈ l, d < b) → value b x l < 18446744073709551616 → gfold b x (l.map fun d => UInt8.ofNat (code d)) = some (value b x l) := by
  intro l
  induction l with
  | nil => intro x _ _; rfl
  | cons d l ih =>
    intro x h hv
    have hd := h d (List.mem_cons_self ..)
    have hv' : value b (b * x + d) l < 18446744073709551616 := by simpa [value] using hv
    have hge := value_ge (b := b) (by omega) l (b * x + d)
    have hs : gstep b x (UInt8.ofNat (code d)) = some (b * x + d) := by
      unfold gstep
      rw [bdig_code d (by omega)]
      rw [if_pos ⟨by omega, by omega, (Nat.le_div_iff_mul_le (by omega)).2 (by rw [Nat.mul_comm]; simp; omega)⟩]
      simp
    simp only [List.map_cons, gfold, hs]
    rw [ih _ (fun x hx => h x (List.mem_cons_of_mem _ hx)) hv']
    simp [value]

theorem rdig_ltb {b : Nat} (hb2 : 2 ≤ b) : ∀ n d, d ∈ rdig b n → d < b := by
  intro n
  induction n using Nat.strongRecOn with
  | _ n ih =>
    intro d hd
    have hm := Nat.mod_lt n (show 0 < b by omega)
    rw [rdig_step hb2] at hd
    rcases List.mem_cons.1 hd with h | h
    · omega
    · split at h
      · cases h
      · rename_i hq
        rcases Nat.eq_zero_or_pos n with h0 | h0
        · subst h0; simp at hq
        · exact ih (n / b) (Nat.div_lt_self h0 (by omega)) d h

/-- The digits, the first one first. -/
def dig (b n : Nat) : List Nat := (rdig b n).reverse
theorem putL_dig (b n : Nat) : putL b n = (dig b n).map fun d => UInt8.ofNat (code d) := rfl
theorem dig_lt {b : Nat} (hb2 : 2 ≤ b) (n d : Nat) (h : d ∈ dig b n) : d < b := rdig_ltb hb2 n d (by simpa [dig] using h)
theorem dig_step {b n : Nat} (hb : 2 ≤ b) : dig b n = (if n / b = 0 then [] else dig b (n / b)) ++ [n % b] := by
  unfold dig
  rw [rdig_step hb]
  split <;> simp
theorem dig_value {b : Nat} (hb : 2 ≤ b) : ∀ n, value b 0 (dig b n) = n := by
  intro n
  induction n using Nat.strongRecOn with
  | _ n ih =>
    rw [dig_step hb, value_append]
    split
    · rename_i h
      have := Nat.div_add_mod n b
      simp [value]
      rw [h] at this; omega
    · rename_i h
      have h0 : 0 < n := by rcases Nat.eq_zero_or_pos n with h0 | h0; (subst h0; simp at h); exact h0
      rw [ih _ (Nat.div_lt_self h0 (by omega))]
      have := Nat.div_add_mod n b
      simp [value]; omega
theorem dig_pos (b n : Nat) : 1 ≤ (dig b n).length := by have := rdig_pos b n; simpa [dig] using this
theorem dig_len {b : Nat} (hb : 2 ≤ b) : ∀ (k n : Nat), (dig b n).length ≤ k + 1 ↔ n < b ^ (k + 1) := by
  intro k
  induction k with
  | zero =>
    intro n
    rw [dig_step hb]
    split
    · rename_i h
      have := (Nat.div_eq_zero_iff).1 h
      simp; omega
    · rename_i h
      have h2 : ¬ n < b := fun h3 => h (Nat.div_eq_of_lt h3)
      have := dig_pos b (n / b)
      simp; constructor
      · intro h3; rw [h3] at this; simp at this
      · intro h3; omega
  | succ k ih =>
    intro n
    rw [dig_step hb]
    split
    · rename_i h
      have h2 : n < b := by rcases (Nat.div_eq_zero_iff).1 h with h | h <;> omega
      have h3 : b ^ 1 ≤ b ^ (k + 1 + 1) := Nat.pow_le_pow_right (by omega) (by omega)
      simp at h3 ⊢; omega
    · have := ih (n / b)
      have e : b ^ (k + 1) * b = b ^ (k + 1 + 1) := (Nat.pow_succ ..).symm
      rw [Nat.div_lt_iff_lt_mul (by omega), e] at this
      simp only [List.length_append, List.length_cons, List.length_nil]
      omega

theorem get_zeros {b : Nat} (hb2 : 2 ≤ b) (hb : b ≤ 16) (k n : Nat) (hn : n < 18446744073709551616) : getN b (List.replicate k 48 ++ putL b n) = some n := by
  have hv0 : value b 0 (List.replicate k 0) = 0 := by
    induction k with
    | zero => rfl
    | succ k ih => simp only [List.replicate_succ, value, List.foldl_cons, Nat.mul_zero, Nat.add_zero]; exact ih
  have hz : List.replicate k (48 : UInt8) = (List.replicate k 0).map fun d => UInt8.ofNat (code d) := by simp [code]
  have hp := dig_pos b n
  unfold getN
  rw [if_neg (by rw [putL_dig]; intro e; have := congrArg List.length e; rw [List.length_append, List.length_map] at this; simp only [List.length_nil] at this; omega)]
  rw [hz, putL_dig, ← List.map_append, gfold_value hb2 hb]
  · rw [value_append, hv0, dig_value hb2]
  · intro d hd
    rcases List.mem_append.1 hd with h | h
    · have := (List.mem_replicate.1 h).2; omega
    · exact dig_lt hb2 n d h
  · rw [value_append, hv0, dig_value hb2]; exact hn

theorem get_put {b : Nat} (hb2 : 2 ≤ b) (hb : b ≤ 16) (n : Nat) (hn : n < 18446744073709551616) : getN b (putL b n) = some n := by
  have := get_zeros hb2 hb 0 n hn
  simpa using this

/-- Of two lists of as many digits the one that tells more is greater where they part. -/
theorem value_part {b : Nat} (p : List Nat) (a c : Nat) (r s : List Nat) (hl : r.length = s.length) (hac : c < a) : value b 0 (p ++ c :: s) < value b 0 (p ++ a :: r) ∨ ¬ (∀ d ∈ s, d < b) := by
  by_cases hs : ∀ d ∈ s, d < b
  · left
    rw [value_append, value_append]
    generalize value b 0 p = x
    have e1 : value b x (c :: s) = value b (b * x + c) s := by simp [value]
    have e2 : value b x (a :: r) = value b (b * x + a) r := by simp [value]
    rw [e1, e2, value_eq b s, value_eq b r, hl]
    have h1 := value_lt s hs
    have h2 : (b * x + c + 1) * b ^ s.length ≤ (b * x + a) * b ^ s.length := Nat.mul_le_mul_right _ (by omega)
    rw [Nat.add_mul (b * x + c), Nat.one_mul] at h2
    omega
  · exact .inr hs
theorem u64_nat {x : Int} (h : (Lit.int .u64 x).wf = true) : ∃ n : Nat, x = n ∧ n < 18446744073709551616 := by
  have h2 : 0 ≤ x ∧ x ≤ 18446744073709551615 := by simpa [Lit.wf, IntKind.min, IntKind.max, IntKind.signed, IntKind.bits] using h
  exact ⟨x.toNat, by omega, by omega⟩
end Go.Proofs.YtkfaejnpgdbhlaaGreatDoor
