/-
  path's parts: an iterator that goes through another one.
-/
import Derived.Test.YtkfaejnpgdbhlaaGreatDoorSplitSeq
namespace Go.Proofs.YtkfaejnpgdbhlaaGreatDoor
open Go.RowKit Go.Shelf
attribute [local go_sem] Oper.semAt_some

/-- Every block from B on is as it was. -/
def KeepsAll (B : Nat) (W W' : World) : Prop := ∀ k o, B ≤ k → W.heap[k]? = some o → W'.heap[k]? = some o
theorem KeepsAll.refl (B : Nat) (W : World) : KeepsAll B W W := fun _ _ _ h => h
theorem KeepsAll.trans {B : Nat} {X Y Z : World} (h : KeepsAll B X Y) (k : KeepsAll B Y Z) : KeepsAll B X Z := fun i o hb hi => k i o hb (h i o hb hi)
theorem KeepsAll.at {B : Nat} {W W' : World} (h : KeepsAll B W W') {k : Nat} (hB : B ≤ k) (hk : k < W.heap.size) : W'.heap[k]? = W.heap[k]? := by
  rw [Array.getElem?_eq_getElem hk]; exact h k _ hB (Array.getElem?_eq_getElem hk)
theorem KeepsAll.rec {B : Nat} {W W' : World} (h : KeepsAll B W W') {C : Nat} (hC : B ≤ C) : KeepsRec C W W' := fun k o hk ho _ => h k o (Nat.le_trans hC hk) ho
theorem KeepsAll.size {B : Nat} {W W' : World} (h : KeepsAll B W W') {k : Nat} (hB : B ≤ k) (hk : k < W.heap.size) : k < W'.heap.size := by
  have := (h.at hB hk).trans (Array.getElem?_eq_getElem hk)
  exact (Array.getElem?_eq_some_iff.1 this).1
theorem Steps.putRec {own : Nat → Prop} {base : Nat} {A : World} {l : Nat} {o : Obj} (o' : Obj) (hl : A.heap[l]? = some o) (hc : ∀ c t m, o ≠ .cells c t m) (hb : base ≤ l) : Steps own base A (A.putObj l o') :=
  ⟨rfl, rfl, rfl, by simp, fun k o2 hk _ hcc => by
    by_cases e : k = l
    · subst e
      rw [hl] at hk
      cases hk
      rcases hcc with ⟨c, t, m, h⟩ | h
      · exact absurd h (hc c t m)
      · omega
    · exact (World.putObj_heap_other e).trans hk⟩

theorem parts_any (s : ByteArray) (w : World) :
    Calls Tryz.prog 111 #[.agg #[.string s]] w fun e w' =>
      e = .returned (.func (.func 135) #[] #[.pointer (some ⟨w.heap.size, 0, none⟩)]) ∧ w.alloc (.cells #[.string s] 161) = w' := by
  go_enter Tryz.func111, Tryz.ntmps111
  go_wp2
  go_ret
  exact ⟨rfl, rfl⟩

theorem callsIn_any {m n : Nat} {P : Program} {f : FuncId} {vs : Array Value} {W : World} {R : Ending → World → Prop} (h : CallsIn Fence.wide n P f vs W R) : CallsIn Fence.wide m P f vs W R := callsIn_wide.2 (callsIn_wide.1 h)

/-- The blocks that the iterator lays for itself. -/
def PartsOwn (b k : Nat) : Prop := b ≤ k ∧ k < b + 4

set_option maxRecDepth 100000 in
set_option maxHeartbeats 1000000 in
theorem parts_seq (tb : Nat) (s : ByteArray) (hs : s.size ≤ 140737488351232) (w : World) (h1 : w.heap[tb]? = some (.cells #[.string s] 161 (0, 0))) :
    SeqW Tryz.prog 135 #[.pointer (some ⟨tb, 0, none⟩)] (fun x : List UInt8 => #[Value.string ⟨x.toArray⟩]) PartsOwn
      KeepsAll (fun pre x => pre ++ [x] <+: cutsL s.data.toList) (fun xs _ => xs = cutsL s.data.toList) (fun _ => True) w := by
  intro l J Jx W hW hJ hJx hY h0
  have kt := (Array.getElem?_eq_some_iff.1 h1).1
  have c0 := cell_of_one ((hW.block tb kt).trans h1)
  have c1 := fun o => cell_alloc c0 o
  refine callsIn_any (callsIn_of_wp_marks (n := 10) Tryz.func135 rfl trivial ?_ rfl)
  simp only [Tryz.ntmps135, List.size_toArray, List.length_cons, List.length_nil, Nat.reduceAdd, Nat.reduceSub, Array.replicate_succ, Array.replicate_zero, List.push_toArray, List.append_toArray, List.nil_append, List.cons_append]
  refine wpIn_wide.2 ?_
  go_wp2_with fail
  refine (SplitSeq_any s _).mono ?_
  rintro e W0 ⟨rfl, hS, hB, hz⟩
  go_wp2_with fail
  have hyb : W0.heap[W.heap.size]? = some (.cells #[.func (.yield l) #[] #[]] 30 (0, 0)) := (hB.block _ (by simp)).trans (World.alloc_heap_new W _)
  simp only [World.size_alloc] at hS hz hB ⊢
  have hJ0 : J [] W0 := hJ _ _ _ h0 ⟨hB.os, hB.tape, hB.output, by omega, fun k o hk _ _ => (hB.block k (by have := (Array.getElem?_eq_some_iff.1 hk).1; omega)).trans ((Below.heap_alloc W _ k (Array.getElem?_eq_some_iff.1 hk).1).trans hk)⟩
  clear c0 c1
  generalize hb : W.heap.size = b at *
  refine (wpIn_wide (n := 10)).1 ?_
  refine wpIn_rangeSeqW (gf := 172) rfl (enters_of Tryz.func172 (by kernel_rfl) rfl)
    (split_seq (b + 1 + 1) (b + 1) (b + 1 + 1 + 1) s hs (by omega) (by omega) W0 hS) (fun k hk => by omega) (fun h k => ⟨k.1.trans h.1, k.2.1.trans h.2.1, k.2.2.trans h.2.2⟩)
    (fun W o => ⟨World.putObj_heap_other (by omega), World.putObj_heap_other (by omega), World.putObj_heap_other (by omega)⟩)
    (fun xs W l o hl h => h) (fun _ => rfl)
    (fun pre A => J pre A ∧ A.heap[b]? = some (.cells #[.func (.yield l) #[] #[]] 30 (0, 0)) ∧ b + 4 ≤ A.heap.size)
    (fun c pre A => c = .ret ∧ Jx pre A) ?hI ?hIx ?h0 ?a1 ?assign ?body ?done ?stop
  case assign =>
    intro l x W K hK
    gi_wp2
    exact hK
  case hI =>
    rintro pre A B ⟨hj, hbx, hsz⟩ hst
    exact ⟨hJ _ _ _ hj (hst.widen (fun k hk => ⟨by omega, by omega⟩) (by omega)), hst.cells hbx (by omega), Nat.le_trans hsz hst.size⟩
  case hIx =>
    rintro c pre A B ⟨hc, hj⟩ hst
    exact ⟨hc, hJx _ _ _ hj (hst.widen (fun k hk => ⟨by omega, by omega⟩) (by omega))⟩
  case h0 => exact ⟨hJ0, hyb, by omega⟩
  case body =>
    rintro l2 pre x W1 hl ⟨hj, hbx, hsz⟩ hok _
    have c0 := cell_of_one hbx
    obtain ⟨fn, tmps, assign, body, hy, hR⟩ := Yld.boolW (Kp := KeepsAll b) (hY pre x W1 hj hok (fun k hk => Nat.lt_of_lt_of_le hk.2 hsz))
    gi_wp2_with (refine (roundIn_nest (hR _)).mono ?_; rintro e W3 ⟨r, rfl, hA⟩; cases r)
    · exact ⟨hA.2.rec (by omega), ⟨hA.2.at (by omega) (by omega), hA.2.at (by omega) (by omega), hA.2.at (by omega) (by omega)⟩, rfl, hA.1⟩
    · exact ⟨hA.2.rec (by omega), ⟨hA.2.at (by omega) (by omega), hA.2.at (by omega) (by omega), hA.2.at (by omega) (by omega)⟩, hA.1, (hA.2.at (Nat.le_refl _) (by omega)).trans hbx, Nat.lt_of_le_of_lt (Nat.le_refl _) (hA.2.size (k := b + 3) (by omega) (by omega))⟩
  case done =>
    rintro D ys W1 hD hys ⟨hj, hbx, hsz⟩ hK
    gi_wp2_with fail
    go_wp2_with fail
    refine ⟨by simp, .inl ⟨_, _, rfl, run_takeDeferred hK, ?_⟩⟩
    exact ⟨_, results_none rfl _ _ _, ⟨_, rfl⟩, .inl ⟨ys, hys, hJ _ _ _ hj (Steps.putRec _ hK (fun _ _ _ h => by cases h) (by omega))⟩⟩
  case stop =>
    rintro D c pre W1 hD _ ⟨rfl, hj⟩ hK
    gi_wp2_with fail
    go_wp2_with fail
    refine ⟨by simp, .inl ⟨_, _, rfl, run_takeDeferred hK, ?_⟩⟩
    exact ⟨_, results_none rfl _ _ _, ⟨_, rfl⟩, .inr ⟨pre, trivial, hJx _ _ _ hj (Steps.putRec _ hK (fun _ _ _ h => by cases h) (by omega))⟩⟩
end Go.Proofs.YtkfaejnpgdbhlaaGreatDoor
