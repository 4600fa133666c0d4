/-
  header's isHead by contract.
-/
import Derived.Test.YtkfaejnpgdbhlaaGreatDoorPathRight
import Derived.Test.YtkfaejnpgdbhlaaGreatDoorHeadSmall
namespace Go.Proofs.YtkfaejnpgdbhlaaGreatDoor
open Go.RowKit

theorem other {t : UInt8} (h1 : ¬ t = 53) (h2 : ¬ t = 48) (h3 : ¬ t = 120) : ¬ (t.toNat : Int) = 53 ∧ ¬ (t.toNat : Int) = 48 ∧ ¬ (t.toNat : Int) = 120 := by
  have e : ∀ c : UInt8, ¬ t = c → ¬ (t.toNat : Int) = c.toNat := fun c h e => h (UInt8.toNat_inj.1 (by omega))
  exact ⟨e 53 h1, e 48 h2, e 120 h3⟩

/-- A head, as a value. -/
def headV (p : ByteArray) (t n : Nat) : Value := .agg #[.string p, .int .u8 t, .int .u64 n]

set_option maxRecDepth 100000 in
set_option maxHeartbeats 1000000 in
theorem isHead_any (p : ByteArray) (hs : p.size ≤ 1048576) (t : UInt8) (n : Nat) (w : World) {ea : Addr} (hE : PathErr w ea) :
    Calls Tryz.prog 31 #[headV p t.toNat n] w fun e w' => e = .returned (.bool (headL p.data.toList t n).isSome) ∧ Below w.heap.size w w' := by
  unfold headV
  obtain ⟨W1, hW1⟩ : ∃ W1, W1 = w.alloc (.cells #[.string p, .int .u8 t.toNat, .int .u64 n] 25) := ⟨_, rfl⟩
  have hb : W1.heap[w.heap.size]? = some (.cells #[.string p, .int .u8 t.toNat, .int .u64 n] 25 (0, 0)) := by rw [hW1]; exact World.alloc_heap_new w _
  have hB1 : Below w.heap.size w W1 := by rw [hW1]; exact (Below.refl _ w).alloc (Nat.le_refl _) _
  have K := Lib.hid (Split_any p hs W1 (hE.below hB1))
  have c0 : W1.cell? ⟨w.heap.size, 0, none⟩ = some (.string p) := by simp [World.cell?, hb]
  have kz := lt_block hb
  obtain ⟨R, hR⟩ : ∃ R, (headL p.data.toList t n).isSome = R := ⟨_, rfl⟩
  rw [hR]
  have HR := Lib.hid hR
  clear hR
  go_enter Tryz.func31, Tryz.ntmps31
  go_wp2_with fail
  rw [← hW1]
  have hfin : ∀ W2, Below W1.heap.size W1 W2 → Below w.heap.size w W2 ∧ W2.cell? ⟨w.heap.size, 1, none⟩ = some (.int .u8 t.toNat) ∧ W2.cell? ⟨w.heap.size, 2, none⟩ = some (.int .u64 n) := fun W2 h => by
    have h2 := (h.block _ kz).trans hb
    exact ⟨hB1.trans (h.mono hB1.size), by simp [World.cell?, h2], by simp [World.cell?, h2]⟩
  refine K.out.mono ?_
  rintro e W2 ⟨rfl, hB⟩
  obtain ⟨hB2, c1, c2⟩ := hfin W2 hB
  clear K hW1 hfin c0 hb
  cases hsp : splitL p.data.toList with
  | none =>
    have E : Hid (R = false) := Lib.hid (by rw [← HR.out]; simp [headL, hsp])
    simp only [SplitRes]
    by_cases h53 : t = 53
    · subst h53
      replace c1 : W2.cell? ⟨w.heap.size, 1, none⟩ = some (.int .u8 53) := c1
      go_wp2_with fail
      go_ret
      exact ⟨by rw [E.out]; rfl, hB2⟩
    by_cases h48 : t = 48
    · subst h48
      replace c1 : W2.cell? ⟨w.heap.size, 1, none⟩ = some (.int .u8 48) := c1
      go_wp2_with fail
      go_ret
      exact ⟨by rw [E.out]; rfl, hB2⟩
    by_cases h120 : t = 120
    · subst h120
      replace c1 : W2.cell? ⟨w.heap.size, 1, none⟩ = some (.int .u8 120) := c1
      go_wp2_with fail
      go_ret
      exact ⟨by rw [E.out]; rfl, hB2⟩
    obtain ⟨q1, q2, q3⟩ := other h53 h48 h120
    generalize t.toNat = m at *
    go_wp2_with fail
    go_ret
    exact ⟨by rw [E.out]; rfl, hB2⟩
  | some pn =>
    obtain ⟨a, b⟩ := pn
    simp only [SplitRes]
    by_cases h53 : t = 53
    · subst h53
      replace c1 : W2.cell? ⟨w.heap.size, 1, none⟩ = some (.int .u8 53) := c1
      by_cases hb : b.length < 100
      · have hbi : ((⟨b.toArray⟩ : ByteArray).size : Int) < 100 := by simp [ByteArray.size]; omega
        by_cases hn : n = 0
        · subst hn
          have E : Hid (R = true) := Lib.hid (by rw [← HR.out]; simp [headL, hsp, hb])
          go_wp2_with fail
          go_ret
          exact ⟨by rw [E.out]; rfl, hB2⟩
        · have E : Hid (R = false) := Lib.hid (by rw [← HR.out]; simp [headL, hsp, hb, hn])
          have hni : ¬ (n : Int) = 0 := by omega
          have hnb : ((n : Int) == 0) = false := by simpa using hni
          go_wp2_with fail
          go_ret
          exact ⟨by rw [E.out, ← hnb]; rfl, hB2⟩
      · have E : Hid (R = false) := Lib.hid (by rw [← HR.out]; simp [headL, hsp, hb])
        have hbi : ¬ ((⟨b.toArray⟩ : ByteArray).size : Int) < 100 := by simp [ByteArray.size]; omega
        go_wp2_with fail
        go_ret
        exact ⟨by rw [E.out]; rfl, hB2⟩
    by_cases h48 : t = 48
    · subst h48
      replace c1 : W2.cell? ⟨w.heap.size, 1, none⟩ = some (.int .u8 48) := c1
      by_cases hn : n ≤ 8589934591
      · have E : Hid (R = true) := Lib.hid (by rw [← HR.out]; simp [headL, hsp, hn])
        have hni : (n : Int) ≤ 8589934591 := by omega
        go_wp2_with fail
        go_ret
        exact ⟨by rw [E.out]; rfl, hB2⟩
      · have E : Hid (R = false) := Lib.hid (by rw [← HR.out]; simp [headL, hsp, hn])
        have hni : ((n : Int) ≤ 8589934591) = False := by simp; omega
        go_wp2_with fail
        go_ret
        exact ⟨by rw [E.out]; rfl, hB2⟩
    by_cases h120 : t = 120
    · subst h120
      replace c1 : W2.cell? ⟨w.heap.size, 1, none⟩ = some (.int .u8 120) := c1
      by_cases hn : n ≤ 8589934591
      · have E : Hid (R = true) := Lib.hid (by rw [← HR.out]; simp [headL, hsp, hn])
        have hni : (n : Int) ≤ 8589934591 := by omega
        go_wp2_with fail
        go_ret
        exact ⟨by rw [E.out]; rfl, hB2⟩
      · have E : Hid (R = false) := Lib.hid (by rw [← HR.out]; simp [headL, hsp, hn])
        have hni : ((n : Int) ≤ 8589934591) = False := by simp; omega
        go_wp2_with fail
        go_ret
        exact ⟨by rw [E.out]; rfl, hB2⟩
    have E : Hid (R = false) := Lib.hid (by rw [← HR.out]; simp [headL, hsp, h53, h48, h120])
    obtain ⟨q1, q2, q3⟩ := other h53 h48 h120
    generalize t.toNat = m at *
    go_wp2_with fail
    go_ret
    exact ⟨by rw [E.out]; rfl, hB2⟩
end Go.Proofs.YtkfaejnpgdbhlaaGreatDoor
