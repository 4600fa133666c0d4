/-
  Plain facts on blocks: a byte that is another one is found by the sum; no program in sight but for the definitions of the walks.
-/
import Derived.Test.YtkfaejnpgdbhlaaGreatDoorHeadAll
import Derived.Test.YtkfaejnpgdbhlaaGreatDoorShelf
import Derived.Lib.IndexLaws
import Derived.Lib.Strings
namespace Go.Proofs.YtkfaejnpgdbhlaaGreatDoor
open Go.RowKit

theorem read_field6 {n : Nat} (hn : n < 262144) : readL (fieldL 6 n) = some n := by
  have hl : (putL 8 n).length ≤ 6 := put_small (k := 5) (by omega)
  unfold readL
  rw [if_pos (by rw [fieldL_length hl]; omega)]
  exact get_zeros (by omega) (by omega) _ n (by omega)
theorem checkL_inj {m n : Nat} (hm : m < 262144) (hn : n < 262144) (h : checkL m = checkL n) : m = n := by
  have e : fieldL 6 m = fieldL 6 n := List.append_cancel_right h
  have h1 := read_field6 hm
  rw [e, read_field6 hn] at h1
  exact (Option.some.inj h1).symm

theorem sumB_split {l : List UInt8} (_ : l.length = 512) : sumB l = sumB (l.take 148) + (sumB ((l.drop 148).take 8) + sumB (l.drop 156)) := by
  have e : l = l.take 148 ++ ((l.drop 148).take 8 ++ (l.drop 148).drop 8) := by rw [List.take_append_drop, List.take_append_drop]
  conv => lhs; rw [e]
  rw [sumB_append, sumB_append, List.drop_drop]
theorem sumX_split {l : List UInt8} (h : l.length = 512) : sumX l = sumB (l.take 148) + sumB (l.drop 156) + 256 := by
  unfold sumX
  have := sumB_split h
  omega
theorem sumB_set : ∀ (l : List UInt8) (i : Nat) (c : UInt8) (h : i < l.length), sumB (l.set i c) + l[i].toNat = sumB l + c.toNat := by
  intro l
  induction l with
  | nil => intro i c h; simp at h
  | cons a l ih =>
    intro i c h
    cases i with
    | zero => simp [sumB]; omega
    | succ i =>
      have := ih i c (by simpa using h)
      simp only [List.set_cons_succ, sumB, List.getElem_cons_succ]
      omega

theorem summed_parts {l : List UInt8} (h : l.length = 512) : (summedL l).take 148 = l.take 148 ∧ ((summedL l).drop 148).take 8 = checkL (sumX l) ∧ (summedL l).drop 156 = l.drop 156 := by
  have hc := check_len (sum_small h)
  unfold summedL setAt
  rw [hc]
  have hl : (l.take 148).length = 148 := by rw [List.length_take]; omega
  refine ⟨?_, ?_, ?_⟩
  · rw [List.append_assoc, List.take_left' hl]
  · rw [List.append_assoc, List.drop_left' hl, List.take_left' hc]
  · rw [List.drop_left' (by rw [List.length_append, hl, hc])]
theorem summed_sum {l : List UInt8} (h : l.length = 512) : sumX (summedL l) = sumX l := by
  obtain ⟨h1, _, h3⟩ := summed_parts h
  rw [sumX_split (summed_len h), sumX_split h, h1, h3]

theorem flip_gen {l B : List UInt8} (hl : l.length = 512) (hS : B.length = 512) (p2 : (B.drop 148).take 8 = checkL (sumX l)) (hsum : sumX B = sumX l) {i : Nat} (hi : i < 512) {c : UInt8} (hne : c ≠ B[i]) :
    ((B.set i c).drop 148).take 8 ≠ checkL (sumX (B.set i c)) := by
  have hne2 : c.toNat ≠ (B[i]'(by omega)).toNat := fun e => hne (UInt8.toNat_inj.1 e)
  have hBs : (B.set i c).length = 512 := by simpa using hS
  have hsm := sum_small hBs
  have hsm2 := sum_small hl
  rcases Nat.lt_or_ge i 148 with h | h
  · have e1 : ((B.set i c).drop 148).take 8 = checkL (sumX l) := by rw [List.drop_set, if_pos h, p2]
    have e2 : (B.set i c).drop 156 = B.drop 156 := by rw [List.drop_set, if_pos (by omega)]
    have e3 := sumB_set (B.take 148) i c (by rw [List.length_take]; omega)
    rw [List.getElem_take, ← List.take_set] at e3
    rw [e1]
    intro he
    have := checkL_inj hsm2 hsm he
    rw [sumX_split hBs, e2, ← hsum, sumX_split hS] at this
    omega
  · rcases Nat.lt_or_ge i 156 with h2 | h2
    · have e1 : ((B.set i c).drop 148).take 8 = ((B.drop 148).take 8).set (i - 148) c := by
        rw [List.drop_set, if_neg (by omega), List.take_set]
      have e2 : (B.set i c).drop 156 = B.drop 156 := by rw [List.drop_set, if_pos (by omega)]
      have e3 : (B.set i c).take 148 = B.take 148 := List.take_set_of_le (by omega)
      have e4 : sumX (B.set i c) = sumX B := by rw [sumX_split hBs, sumX_split hS, e2, e3]
      rw [e4, hsum, ← p2, e1]
      intro he
      have h5 := congrArg (fun l : List UInt8 => l[i - 148]?) he
      simp only [List.getElem?_set, List.length_take, List.length_drop] at h5
      rw [if_pos trivial, if_pos (by omega), List.getElem?_take_of_lt (by omega), List.getElem?_drop, show 148 + (i - 148) = i by omega, List.getElem?_eq_getElem (by omega)] at h5
      exact hne (Option.some.inj h5)
    · have e1 : ((B.set i c).drop 148).take 8 = checkL (sumX l) := by
        rw [List.drop_set, if_neg (by omega), List.take_set_of_le (by omega), p2]
      have e3 : (B.set i c).take 148 = B.take 148 := List.take_set_of_le (by omega)
      have e2 := sumB_set (B.drop 156) (i - 156) c (by rw [List.length_drop]; omega)
      rw [List.getElem_drop] at e2
      have e4 : (B.set i c).drop 156 = (B.drop 156).set (i - 156) c := by rw [List.drop_set, if_neg (by omega)]
      rw [e1]
      intro he
      have := checkL_inj hsm2 hsm he
      rw [sumX_split hBs, e3, e4, ← hsum, sumX_split hS] at this
      have key : ∀ (k : Nat) (hk : k < B.length), k = i → B[k] = B[i]'(by omega) := fun k hk e => by subst e; rfl
      have e5 : B[156 + (i - 156)]'(by omega) = B[i]'(by omega) := key _ _ (by omega)
      rw [e5] at e2
      omega

/-- One byte that is another one is found. -/
theorem flip_found {l B : List UInt8} (hl : l.length = 512) (hB : summedL l = B) (hS : B.length = 512) {i : Nat} (hi : i < 512) {c : UInt8} (hne : c ≠ B[i]) :
    ((B.set i c).drop 148).take 8 ≠ checkL (sumX (B.set i c)) := by
  subst hB
  exact flip_gen hl hS (summed_parts hl).2.1 (summed_sum hl) hi hne
end Go.Proofs.YtkfaejnpgdbhlaaGreatDoor

/-
  header.plain, header.IsZero by contract; trimming zeros behind: plain facts.
-/
namespace Go.Proofs.YtkfaejnpgdbhlaaGreatDoor
open Go.RowKit

/-- A field's text. -/
def plainL (l : List UInt8) : List UInt8 := Lib.trimRightB l 0
/-- Whether there are only zeros behind it. -/
def plainOk (l : List UInt8) : Bool := !decide (0 ≤ Lib.indexByte (plainL l) 0)

set_option maxRecDepth 100000 in
theorem plain_any (s : ByteArray) (hs : s.size ≤ 140737488351232) (w : World) :
    Calls Tryz.prog 44 #[.string s] w fun e w' => e = .returned (.tuple #[.string ⟨(plainL s.data.toList).toArray⟩, .bool (plainOk s.data.toList)]) ∧ Below w.heap.size w w' := by
  have K := Lib.hid fun W => Tryz.strings_TrimRight_one s 0 (by decide) W (by omega)
  have K2 := Lib.hid fun W => Tryz.strings_Contains_one ⟨(plainL s.data.toList).toArray⟩ 0 W
  go_enter Tryz.func44, Tryz.ntmps44
  go_wp2_with fail
  refine (K.out _).mono ?_
  rintro e w1 ⟨rfl, rfl⟩
  go_wp2_with fail
  refine (K2.out _).mono ?_
  rintro e w1 ⟨rfl, rfl⟩
  go_wp2_with fail
  go_ret2
  exact ⟨rfl, Below.refl _ _⟩

theorem trim_cons_ne (l : List UInt8) (k : Nat) (h : ∀ x, l.getLast? = some x → x ≠ 0) : Lib.trimRightB (l ++ List.replicate k 0) 0 = l := by
  unfold Lib.trimRightB
  rw [List.reverse_append, List.reverse_replicate]
  have e : ∀ k (r : List UInt8), (List.replicate k 0 ++ r).dropWhile (· == (0 : UInt8)) = r.dropWhile (· == 0) := by
    intro k r
    induction k with
    | zero => rfl
    | succ k ih => rw [List.replicate_succ, List.cons_append, List.dropWhile_cons_of_pos (by rfl), ih]
  rw [e]
  cases hr : l.reverse with
  | nil => have : l = [] := by simpa using hr
           rw [this]; rfl
  | cons a r =>
    have ha : a ≠ 0 := h a (by rw [← List.head?_reverse, hr]; rfl)
    rw [List.dropWhile_cons_of_neg (by simpa using ha), ← hr, List.reverse_reverse]

/-- A text without zeros is found again. -/
theorem plain_pad {l : List UInt8} (h : (0 : UInt8) ∉ l) (k : Nat) : plainL (l ++ List.replicate k 0) = l :=
  trim_cons_ne l k fun _ hx e => h (e ▸ List.mem_of_getLast? hx)
end Go.Proofs.YtkfaejnpgdbhlaaGreatDoor

/-
  A head read back from its block: plain law.
-/
namespace Go.Proofs.YtkfaejnpgdbhlaaGreatDoor
open Go.RowKit

/-- A block's field. -/
def fieldOf (b : List UInt8) (k n : Nat) : List UInt8 := (b.drop k).take n
/-- The path that a block tells. -/
def pathOf (b : List UInt8) : List UInt8 :=
  let name := plainL (fieldOf b 0 100)
  let pre := plainL (fieldOf b 345 155)
  let nm := if b.getD 156 0 = 53 then Lib.trimSuffix name [47] else name
  if pre = [] then nm else pre ++ [47] ++ nm
/-- The size that a block tells. -/
def sizeOfB (b : List UInt8) : Nat := (readL (fieldOf b 124 11)).getD 0

theorem flatW_field : ∀ (ws : List Nat) (ss : List (List UInt8)) (i : Nat) (_ : Fits ws ss) (h : i < ss.length), ((flatW ws ss).drop (ws.take i).sum).take (ws.getD i 0) = ss[i] ++ List.replicate (ws.getD i 0 - ss[i].length) 0 := by
  intro ws
  induction ws with
  | nil => intro ss i h hi; cases ss with
    | nil => simp at hi
    | cons s ss => exact h.elim
  | cons w ws ih => intro ss i h hi; cases ss with
    | nil => simp at hi
    | cons s ss =>
      obtain ⟨h1, h2⟩ := h
      have e : (s ++ List.replicate (w - s.length) (0 : UInt8)).length = w := by simp; omega
      cases i with
      | zero =>
        simp only [flatW, List.take_zero, List.sum_nil, List.drop_zero, List.getD_cons_zero, List.getElem_cons_zero]
        exact List.take_left' e
      | succ i =>
        simp only [flatW, List.take_succ_cons, List.sum_cons, List.getD_cons_succ, List.getElem_cons_succ]
        rw [← List.drop_drop, List.drop_left' e]
        exact ih ss i h2 (by simpa using hi)

theorem cuts_mem_zero : ∀ (l : List UInt8), (0 : UInt8) ∈ l → ∃ p ∈ cutsL l, (0 : UInt8) ∈ p := by
  intro l
  induction l with
  | nil => intro h; simp at h
  | cons c l ih =>
    intro h
    by_cases hc : c = 47
    · have h2 : (0 : UInt8) ∈ l := by
        rcases List.mem_cons.1 h with h | h
        · rw [hc] at h; exact absurd h (by decide)
        · exact h
      obtain ⟨p, hp, h0⟩ := ih h2
      refine ⟨p, ?_, h0⟩
      simp only [cutsL, if_pos hc]
      exact List.mem_cons_of_mem _ hp
    · simp only [cutsL, if_neg hc]
      rcases List.mem_cons.1 h with h | h
      · subst h
        cases cutsL l with
        | nil => exact ⟨[0], by simp, by simp⟩
        | cons p r => exact ⟨0 :: p, by simp, by simp⟩
      · obtain ⟨p, hp, h0⟩ := ih h
        cases hl : cutsL l with
        | nil => rw [hl] at hp; simp at hp
        | cons q r =>
          rw [hl] at hp
          rcases List.mem_cons.1 hp with hp | hp
          · subst hp; exact ⟨c :: p, by simp, List.mem_cons_of_mem _ h0⟩
          · exact ⟨p, by simp [hp], h0⟩

theorem right_zero {p : List UInt8} (h : rightL p = true) : (0 : UInt8) ∉ p := by
  intro h0
  obtain ⟨q, hq, hz⟩ := cuts_mem_zero p h0
  unfold rightL at h
  simp only [Bool.and_eq_true] at h
  have := List.all_eq_true.1 h.1.1 q hq
  unfold isNotL at this
  have e : q.contains 0 = true := by simpa using hz
  rw [e] at this
  simp at this

theorem right_head {p : List UInt8} (h : rightL p = true) : p.head? ≠ some 47 := by
  intro h0
  cases p with
  | nil => simp at h0
  | cons c l =>
    simp only [List.head?_cons, Option.some.injEq] at h0
    unfold rightL at h
    simp only [Bool.and_eq_true] at h
    have := List.all_eq_true.1 h.1.1 [] (by simp [cutsL, h0])
    unfold isNotL at this
    simp at this

theorem right_nil : rightL [] = false := by
  cases h : rightL [] with
  | false => rfl
  | true =>
    unfold rightL at h
    simp only [Bool.and_eq_true] at h
    have := List.all_eq_true.1 h.1.1 [] (by simp [cutsL])
    unfold isNotL at this
    simp at this

/-- A path is its prefix, "/", its name; or its name. -/
theorem split_back {p pre nm : List UInt8} (h : splitL p = some (pre, nm)) : (0 : UInt8) ∉ pre ∧ (0 : UInt8) ∉ nm ∧ p = (if pre = [] then nm else pre ++ [47] ++ nm) := by
  unfold splitL at h
  split at h
  · rename_i hr
    have hz := right_zero hr
    split at h
    · cases h
      exact ⟨by simp, hz, by simp⟩
    · split at h
      · rename_i hlen hc
        cases h
        obtain ⟨hc1, hc2⟩ := hc
        refine ⟨fun h => hz (List.mem_of_mem_take h), fun h => hz (List.mem_of_mem_drop h), ?_⟩
        have hg : p[cutAt p]? = some 47 := by
          have e : ∃ o : Nat, Lib.indexByte (p.drop (p.length - 101) ++ [47]) 47 = o := by
            have hge := Lib.indexByte_ge (p.drop (p.length - 101) ++ [47]) 47
            have hne : Lib.indexByte (p.drop (p.length - 101) ++ [47]) 47 ≠ -1 := fun e => Lib.indexByte_none e (p.drop (p.length - 101)).length (by simp)
            exact ⟨(Lib.indexByte (p.drop (p.length - 101) ++ [47]) 47).toNat, by omega⟩
          obtain ⟨o, ho⟩ := e
          have hs := (Lib.indexByte_some ho).1
          have hcut : cutAt p = (p.length - 101) + o := by unfold cutAt; rw [ho]; simp
          rw [hcut] at hc2 ⊢
          rw [List.getElem?_append_left (by simp; omega), List.getElem?_drop] at hs
          exact hs
        have hpos : 0 < cutAt p := by
          rcases Nat.eq_zero_or_pos (cutAt p) with e | e
          · exfalso
            rw [e] at hg
            apply right_head hr
            rw [List.head?_eq_getElem?]; exact hg
          · exact e
        have hne : ¬ p.take (cutAt p) = [] := by
          intro e
          have : (p.take (cutAt p)).length = 0 := by rw [e]; rfl
          rw [List.length_take] at this
          omega
        rw [if_neg hne]
        have hlt : cutAt p < p.length := hc2
        have hx : p[cutAt p] = 47 := by
          rw [List.getElem?_eq_getElem hlt] at hg
          exact Option.some.inj hg
        conv => lhs; rw [← List.take_append_drop (cutAt p) p, List.drop_eq_getElem_cons hlt, hx]
        simp
      · cases h
  · cases h

theorem trimSuffix_slash (l : List UInt8) : Lib.trimSuffix (l ++ [47]) [47] = l := by
  unfold Lib.trimSuffix
  have e : Lib.hasSuffix (l ++ [47]) [47] = true := by
    unfold Lib.hasSuffix
    simp
  rw [e]
  simp

theorem read_field11 {n : Nat} (hn : n ≤ 8589934591) : readL (fieldL 11 n) = some n := by
  have hl : (putL 8 n).length ≤ 11 := put_small (k := 10) (by omega)
  unfold readL
  rw [if_pos (by rw [fieldL_length hl]; omega)]
  unfold fieldL
  exact get_zeros (by omega) (by omega) _ _ (by omega)

/-- A head's block tells its head. -/
theorem parse_back {p b : List UInt8} {t : UInt8} {n : Nat} (h : putHL p t n = some b) : pathOf b = p ∧ b.getD 156 0 = t ∧ sizeOfB b = n := by
  cases hh : headL p t n with
  | none => unfold putHL at h; rw [hh] at h; cases h
  | some pn =>
    obtain ⟨pre, nm0⟩ := pn
    rw [putHL_some hh] at h
    have hfit := texts_fit hh
    obtain ⟨hsp, _, hn⟩ := headL_some hh
    obtain ⟨z1, z2, hp⟩ := split_back hsp
    obtain ⟨nm, hnm⟩ : ∃ nm, (if t = 53 then nm0 ++ [47] else nm0) = nm := ⟨_, rfl⟩
    obtain ⟨mode, hm⟩ : ∃ mode, (if t = 53 then 493 else 420) = mode := ⟨_, rfl⟩
    rw [hnm, hm] at h hfit
    obtain ⟨l, hl⟩ : ∃ l, flatW wids (textsL pre nm mode n t []) = l := ⟨_, rfl⟩
    have hll : l.length = 512 := by rw [← hl, flatW_length _ _ hfit]; rfl
    rw [hl] at h
    cases h
    obtain ⟨s1, s2, s3⟩ := summed_parts hll
    have F : ∀ i (hi : i < 15), fieldOf l (wids.take i).sum (wids.getD i 0) = (textsL pre nm mode n t [])[i]'(by exact hi) ++ List.replicate (wids.getD i 0 - ((textsL pre nm mode n t [])[i]'(by exact hi)).length) 0 := fun i hi => by
      unfold fieldOf; rw [← hl]; exact flatW_field wids _ i hfit hi
    have znm : (0 : UInt8) ∉ nm := by
      rw [← hnm]; split
      · simp [z2]
      · exact z2
    have f0 : plainL (fieldOf (summedL l) 0 100) = nm := by
      have e : fieldOf (summedL l) 0 100 = fieldOf l 0 100 := by
        unfold fieldOf
        simp only [List.drop_zero]
        have := congrArg (List.take 100) s1
        simpa [List.take_take] using this
      rw [e]
      have := F 0 (by omega)
      simp only [wids, List.take_zero, List.sum_nil, List.getD_cons_zero, textsL, List.getElem_cons_zero] at this
      rw [this]
      exact plain_pad znm _
    have B : ∀ k n, 156 ≤ k → fieldOf (summedL l) k n = fieldOf l k n := by
      intro k n hk
      unfold fieldOf
      have := congrArg (List.drop (k - 156)) s3
      rw [List.drop_drop, List.drop_drop, show 156 + (k - 156) = k by omega] at this
      rw [this]
    have f14 : plainL (fieldOf (summedL l) 345 155) = pre := by
      rw [B 345 155 (by omega)]
      have := F 14 (by omega)
      simp only [wids, List.take_succ_cons, List.take_zero, List.sum_cons, List.sum_nil, Nat.reduceAdd, textsL] at this
      simp at this
      rw [this]
      exact plain_pad z1 _
    have f7 : (summedL l).getD 156 0 = t := by
      have e := B 156 1 (by omega)
      have := F 7 (by omega)
      simp only [wids, List.take_succ_cons, List.take_zero, List.sum_cons, List.sum_nil, Nat.reduceAdd, textsL] at this
      simp at this
      rw [this] at e
      unfold fieldOf at e
      have h1 := congrArg (fun x => x.getD 0 0) e
      simp [List.getD, List.getElem?_drop] at h1
      simpa [List.getD] using h1
    have f4 : fieldOf (summedL l) 124 11 = fieldL 11 n := by
      have e : fieldOf (summedL l) 124 11 = fieldOf l 124 11 := by
        unfold fieldOf
        have := congrArg (fun x => (x.drop 124).take 11) s1
        simpa [List.drop_take, List.take_take] using this
      rw [e]
      have := F 4 (by omega)
      simp only [wids, List.take_succ_cons, List.take_zero, List.sum_cons, List.sum_nil, Nat.reduceAdd, textsL] at this
      simp at this
      have hfl : (fieldL 11 n).length = 11 := fieldL_length (put_small (k := 10) (by omega))
      unfold fieldOf at this ⊢
      have h2 := congrArg (List.take 11) this
      rw [List.take_take] at h2
      rw [show min 11 12 = 11 from rfl] at h2
      rw [h2]
      exact List.take_left' hfl
    refine ⟨?_, f7, ?_⟩
    · unfold pathOf
      rw [f0, f14, f7, hp]
      have e : (if t = 53 then Lib.trimSuffix nm [47] else nm) = nm0 := by
        rw [← hnm]
        split
        · exact trimSuffix_slash nm0
        · rfl
      simp only [e]
    · unfold sizeOfB
      rw [f4, read_field11 hn]
      rfl
end Go.Proofs.YtkfaejnpgdbhlaaGreatDoor
