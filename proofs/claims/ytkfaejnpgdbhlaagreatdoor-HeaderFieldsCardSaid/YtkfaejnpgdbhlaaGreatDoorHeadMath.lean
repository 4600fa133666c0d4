/-
  Plain facts on paths and on heads' blocks; no program in sight but for the definitions of the walks.
-/
import Derived.Test.YtkfaejnpgdbhlaaGreatDoorNumMath
import Derived.Test.YtkfaejnpgdbhlaaGreatDoorSplit
import Derived.Test.YtkfaejnpgdbhlaaGreatDoorUtfRuns
namespace Go.Proofs.YtkfaejnpgdbhlaaGreatDoor
open Go.RowKit

/-- What a path's part may not be. -/
def isNotL (p : List UInt8) : Bool := p == [] || p == [46] || p == [46, 46] || p.contains 0
/-- Whether a text is a path. -/
def rightL (s : List UInt8) : Bool := (cutsL s).all (fun p => !isNotL p) && (urest s).isEmpty && decide (s.length ≤ 250)
/-- Where a path of more than a hundred bytes is cut. -/
def cutAt (s : List UInt8) : Nat := (s.length - 101) + (Lib.indexByte (s.drop (s.length - 101) ++ [47]) 47).toNat
/-- A path's prefix and name. -/
def splitL (s : List UInt8) : Option (List UInt8 × List UInt8) :=
  if rightL s = true then
    if s.length ≤ 100 then some ([], s)
    else if cutAt s ≤ 155 ∧ cutAt s < s.length then some (s.take (cutAt s), s.drop (cutAt s + 1)) else none
  else none

theorem splitL_len {s p n : List UInt8} (h : splitL s = some (p, n)) : p.length ≤ 155 ∧ n.length ≤ 100 := by
  unfold splitL at h
  split at h
  · split at h
    · cases h; exact ⟨by simp, by assumption⟩
    · split at h
      · rename_i h1 h2
        cases h
        have h3 : s.length - 101 ≤ cutAt s := by unfold cutAt; omega
        simp only [List.length_take, List.length_drop]; omega
      · cases h
  · cases h

/-- Bytes put into bytes. -/
def setAt (b : List UInt8) (k : Nat) (s : List UInt8) : List UInt8 := b.take k ++ s ++ b.drop (k + s.length)
theorem setAt_length {b : List UInt8} {k : Nat} {s : List UInt8} (h : k + s.length ≤ b.length) : (setAt b k s).length = b.length := by
  simp only [setAt, List.length_append, List.length_take, List.length_drop]; omega
theorem setAt_at {a z y s : List UInt8} {k : Nat} (hk : k = a.length) (hs : s.length = z.length) : setAt (a ++ z ++ y) k s = a ++ s ++ y := by
  subst hk
  simp only [setAt, List.append_assoc]
  rw [List.take_left' rfl, hs, ← List.drop_drop, List.drop_left' rfl, List.drop_left' rfl]

/-- The fields' sizes. -/
def wids : List Nat := [100, 8, 8, 8, 12, 12, 8, 1, 100, 8, 32, 32, 8, 8, 155, 12]
/-- Where the i-th begins. -/
def offOf (i : Nat) : Nat := (wids.take i).sum
/-- Texts put into their fields, one after another. -/
def setRun : Nat → List Nat → List (List UInt8) → List UInt8 → List UInt8
  | k, w :: ws, s :: ss, b => setRun (k + w) ws ss (setAt b k s)
  | _, _, _, b => b
/-- Fields in a row, zeros behind each text. -/
def flatW : List Nat → List (List UInt8) → List UInt8
  | w :: ws, s :: ss => s ++ List.replicate (w - s.length) 0 ++ flatW ws ss
  | ws, [] => List.replicate ws.sum 0
  | [], _ => []
/-- Texts fit their fields. -/
def Fits : List Nat → List (List UInt8) → Prop
  | w :: ws, s :: ss => s.length ≤ w ∧ Fits ws ss
  | _, [] => True
  | [], _ => False

theorem setRun_flat : ∀ (ws : List Nat) (ss : List (List UInt8)) (pre : List UInt8), Fits ws ss → setRun pre.length ws ss (pre ++ List.replicate ws.sum 0) = pre ++ flatW ws ss := by
  intro ws
  induction ws with
  | nil =>
    intro ss pre h
    cases ss with
    | nil => simp [setRun, flatW]
    | cons s ss => exact h.elim
  | cons w ws ih =>
    intro ss pre h
    cases ss with
    | nil => simp [setRun, flatW]
    | cons s ss =>
      obtain ⟨h1, h2⟩ := h
      simp only [setRun, flatW, List.sum_cons]
      have e1 : pre ++ List.replicate (w + ws.sum) (0 : UInt8) = pre ++ List.replicate s.length 0 ++ (List.replicate (w - s.length) 0 ++ List.replicate ws.sum 0) := by
        rw [List.append_assoc, ← List.append_assoc (List.replicate s.length 0), List.replicate_append_replicate, List.replicate_append_replicate]
        congr 2; omega
      rw [e1, setAt_at rfl (by simp)]
      have := ih ss (pre ++ s ++ List.replicate (w - s.length) 0) h2
      rw [show (pre ++ s ++ List.replicate (w - s.length) (0 : UInt8)).length = pre.length + w by simp; omega] at this
      simp only [List.append_assoc] at this ⊢
      exact this

theorem flatW_length : ∀ (ws : List Nat) (ss : List (List UInt8)), Fits ws ss → (flatW ws ss).length = ws.sum := by
  intro ws
  induction ws with
  | nil => intro ss h; cases ss with
    | nil => rfl
    | cons s ss => exact h.elim
  | cons w ws ih => intro ss h; cases ss with
    | nil => simp [flatW]
    | cons s ss =>
      obtain ⟨h1, h2⟩ := h
      simp only [flatW, List.length_append, List.length_replicate, List.sum_cons, ih ss h2]; omega

/-- "ustar", and what stands behind it. -/
def magicL : List UInt8 := [117, 115, 116, 97, 114, 0, 48, 48]
/-- A head's texts. -/
def textsL (pre name : List UInt8) (mode size : Nat) (type : UInt8) (sum : List UInt8) : List (List UInt8) :=
  [name, fieldL 7 mode, fieldL 7 0, fieldL 7 0, fieldL 11 size, fieldL 11 0, sum, [type], [], magicL, [], [], fieldL 7 0, fieldL 7 0, pre]
/-- A block's sum, that of its own bytes being blanks. -/
def sumX (b : List UInt8) : Nat := sumB b - sumB ((b.drop 148).take 8) + 256
/-- A sum's bytes. -/
def checkL (n : Nat) : List UInt8 := fieldL 6 n ++ [0, 32]
/-- A block, its sum put in. -/
def summedL (b : List UInt8) : List UInt8 := setAt b 148 (checkL (sumX b))

/-- Whether a head is one, and its prefix and name. -/
def headL (path : List UInt8) (type : UInt8) (size : Nat) : Option (List UInt8 × List UInt8) :=
  match splitL path with
  | none => none
  | some (p, n) => if type = 53 then (if n.length < 100 ∧ size = 0 then some (p, n) else none) else if (type = 48 ∨ type = 120) ∧ size ≤ 8589934591 then some (p, n) else none

/-- A head's block. -/
def putHL (path : List UInt8) (type : UInt8) (size : Nat) : Option (List UInt8) :=
  (headL path type size).map fun pn => summedL (flatW wids (textsL pn.1 (if type = 53 then pn.2 ++ [47] else pn.2) (if type = 53 then 493 else 420) size type []))
end Go.Proofs.YtkfaejnpgdbhlaaGreatDoor
