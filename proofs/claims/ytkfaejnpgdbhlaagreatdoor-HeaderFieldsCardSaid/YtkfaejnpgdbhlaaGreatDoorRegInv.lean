/-
  A region that draws its order, by an invariant: each operation is looked at once, whatever has come up before it, from what the operations that it waits for have left; no order is walked.
-/
import Derived.Orders
import Derived.RegionTactic
namespace Go.Proofs.YtkfaejnpgdbhlaaGreatDoor

/-- Every operation waits for earlier ones alone. -/
def lowAfter (ops : Array Oper) : Bool := (List.range ops.size).all fun i => match ops[i]? with
  | none => true
  | some o => o.after.all fun e => !Region.binds .any e || decide (e.on < i)

theorem count_set_true : ∀ (l : List Bool) (i : Nat), l[i]? = some false → (l.set i true).count true = l.count true + 1 := by
  intro l
  induction l with
  | nil => intro i h; simp at h
  | cons b l ih =>
    intro i h
    cases i with
    | zero =>
      obtain rfl : b = false := by simpa using h
      simp
    | succ i =>
      have := ih i (by simpa using h)
      simp only [List.set_cons_succ, List.count_cons, this]
      omega

theorem ready_all {ops : Array Oper} {listed : Array Bool} (hlow : lowAfter ops = true) (hz : listed.size = ops.size) (h : Region.ready .any ops listed = []) : ∀ i, i < ops.size → listed.getD i false = true := by
  intro i
  induction i using Nat.strongRecOn with
  | _ i ih =>
    intro hi
    rcases hb : listed.getD i false with _ | _
    · exfalso
      have ho : ops[i]? = some ops[i] := Array.getElem?_eq_getElem hi
      have hl := List.all_eq_true.1 hlow i (List.mem_range.2 hi)
      rw [ho] at hl
      have : i ∈ Region.ready .any ops listed := mem_ready.2 ⟨by
        have e : listed[i]? = some listed[i] := Array.getElem?_eq_getElem (by omega)
        rw [Array.getD_eq_getD_getElem?, e] at hb ⊢
        simpa using hb, ops[i], ho, fun e he hbi => by
          have h2 := Array.all_eq_true_iff_forall_mem.1 hl e he
          rw [hbi] at h2
          have h3 : e.on < i := by simpa using h2
          exact ih _ h3 (by omega)⟩
      rw [h] at this
      cases this
    · rfl

section
variable {P : Program} {ops : Array Oper} {Q : Exit → Act → World → Prop}

theorem wp_region_inv {id : Nat} {w : World} (hm : P.follows .mixedOrders = true) (hlow : lowAfter ops = true) (last : Nat) (hlast : last < ops.size) (F : (Nat → Value) → Act) (x0 : Nat → Value) (C : Nat → Value → World → Prop) (Wd : Bool → World → Prop)
    (h0 : Wd false w.drew)
    (hput : ∀ k o, ops[k]? = some o → ∀ x v, (F x).put o.dst v = F (fun j => if j = k then v else x j))
    (hstep : ∀ k o, ops[k]? = some o → ∀ (x : Nat → Value) (w : World) (b : Bool), (∀ e ∈ o.after, Region.binds .any e = true → C e.on (x e.on) w) → Wd b w → (k = last → b = false) →
      ∀ K : Act → World → Prop, (∀ v w', C k v w' → (∀ j u, C j u w → C j u w') → Wd (if k = last then true else b) w' → K ((F x).put o.dst v) w') →
      if Region.wanted o (yielded ops (F x).tmps) = true then Oper.wp P o (F x) w K Q else K ((F x).put o.dst undef) w)
    (hdone : ∀ x w, Wd true w → Q .normal (F x) w) : (Code.region id ops true).wp P Q (F x0) w := by
  refine wp_region_any hm ?_
  have key : ∀ (fuel : Nat) (listed : Array Bool) (x : Nat → Value) (w : World), listed.size = ops.size → listed.toList.count true + fuel = ops.size →
      (∀ k, listed.getD k false = true → C k (x k) w) → Wd (listed.getD last false) w → wpAny P .any ops Q fuel listed (F x) w := by
    intro fuel
    induction fuel with
    | zero =>
      intro listed x w hz hc hC hW
      have hall : ∀ b ∈ listed.toList, true = b := List.count_eq_length.1 (by rw [Array.length_toList, hz]; omega)
      have hl : ∀ i, i < ops.size → listed.getD i false = true := fun i hi => by
        have e : listed[i]? = some listed[i] := Array.getElem?_eq_getElem (by omega)
        rw [Array.getD_eq_getD_getElem?, e, Option.getD_some]
        exact (hall _ (Array.getElem_mem_toList ..)).symm
      refine ⟨?_, hdone x w (by rw [← hl last hlast]; exact hW)⟩
      rw [List.eq_nil_iff_forall_not_mem]
      intro i hi
      obtain ⟨h1, o, ho, _⟩ := mem_ready.1 hi
      have hlt : i < ops.size := (Array.getElem?_eq_some_iff.1 ho).1
      have h2 := hl i hlt
      have e : listed[i]? = some listed[i] := Array.getElem?_eq_getElem (by omega)
      rw [Array.getD_eq_getD_getElem?, e, Option.getD_some] at h1 h2
      rw [h1] at h2; cases h2
    | succ fuel ih =>
      intro listed x w hz hc hC hW
      refine ⟨fun h => hdone x w (by rw [← ready_all hlow hz h last hlast]; exact hW), fun i hi => ?_⟩
      obtain ⟨h1, o, ho, hdeps⟩ := mem_ready.1 hi
      have hlt : i < ops.size := (Array.getElem?_eq_some_iff.1 ho).1
      have e : listed[i]? = some listed[i] := Array.getElem?_eq_getElem (by omega)
      have hfalse : listed[i]'(by omega) = false := by rwa [Array.getD_eq_getD_getElem?, e, Option.getD_some] at h1
      have hib : listed.getD i false = false := by rw [Array.getD_eq_getD_getElem?, e, Option.getD_some]; exact hfalse
      refine wpOp_step ho fun K' hK => ?_
      refine hstep i o ho x w (listed.getD last false) (fun e he hb => hC _ (hdeps e he hb)) hW (fun hl => hl ▸ hib) K' fun v w' hCv hmono hWd => hK _ _ ?_
      rw [hput i o ho]
      refine ih (listed.setIfInBounds i true) _ w' (by simpa using hz) ?_ ?_ ?_
      · rw [Array.toList_setIfInBounds, count_set_true _ _ (by rw [Array.getElem?_toList, e, hfalse])]
        omega
      · intro k hk
        by_cases hki : k = i
        · subst hki
          rw [if_pos rfl]; exact hCv
        · rw [if_neg hki]
          refine hmono _ _ (hC k ?_)
          rwa [Array.getD_eq_getD_getElem?, Array.getElem?_setIfInBounds_ne (Ne.symm hki), ← Array.getD_eq_getD_getElem?] at hk
      · by_cases hli : i = last
        · subst hli
          rw [if_pos rfl] at hWd
          rw [Array.getD_eq_getD_getElem?, Array.getElem?_setIfInBounds_self_of_lt (by omega)]
          exact hWd
        · rw [if_neg hli] at hWd
          rw [Array.getD_eq_getD_getElem?, Array.getElem?_setIfInBounds_ne hli, ← Array.getD_eq_getD_getElem?]
          exact hWd
  refine key ops.size (Array.replicate ops.size false) x0 _ (by simp) (by simp [List.count_replicate]) (fun k hk => ?_) ?_
  · exfalso
    rw [Array.getD_eq_getD_getElem?, Array.getElem?_replicate] at hk
    split at hk <;> cases hk
  · have e : (Array.replicate ops.size false).getD last false = false := by
      rw [Array.getD_eq_getD_getElem?, Array.getElem?_replicate]
      split <;> rfl
    rw [e]
    exact h0
end
end Go.Proofs.YtkfaejnpgdbhlaaGreatDoor
