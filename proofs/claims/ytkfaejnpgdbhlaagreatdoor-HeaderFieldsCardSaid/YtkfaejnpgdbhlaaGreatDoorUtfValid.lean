/-
  Package utf's all and Valid, by contract.
-/
import Derived.Test.YtkfaejnpgdbhlaaGreatDoorUtfRuns
import Derived.Test.YtkfaejnpgdbhlaaGreatDoorBox
import Derived.Deep.QuietTactic
import Derived.BigQuiet
namespace Go.Proofs.YtkfaejnpgdbhlaaGreatDoor
open Go.RowKit Go.Shelf
attribute [local go_sem] Oper.semAt_some

theorem infoInt : (Tryz.prog.info? 3).map (fun i => (i.zero, i.size, i.bytes)) = some (some (.int .i64 0), 1, 8) := by kernel_rfl

theorem runes_any (a : Addr) (w : World) :
    Calls Tryz.prog 159 #[.pointer (some a)] w fun e w' =>
      e = .returned (.func (.func 173) #[] #[.pointer (some ⟨w.heap.size, 0, none⟩)]) ∧ w.alloc (.cells #[.pointer (some a)] 222) = w' := by
  go_enter Tryz.func159, Tryz.ntmps159
  go_wp2
  go_ret
  exact ⟨rfl, rfl⟩

theorem all_blocks (w : World) (s : ByteArray) :
    Reads (((w.alloc (.cells #[.string s] 226)).alloc (.cells #[.slice none 0 0] 99)).alloc (.cells #[.pointer (some ⟨w.heap.size, 0, none⟩)] 222)) w.heap.size s ∧
    Boxed (((w.alloc (.cells #[.string s] 226)).alloc (.cells #[.slice none 0 0] 99)).alloc (.cells #[.pointer (some ⟨w.heap.size, 0, none⟩)] 222)) (w.heap.size + 1) 99 (.slice none 0 0) ∧
    (((w.alloc (.cells #[.string s] 226)).alloc (.cells #[.slice none 0 0] 99)).alloc (.cells #[.pointer (some ⟨w.heap.size, 0, none⟩)] 222)).heap[w.heap.size + 1 + 1]? = some (.cells #[.pointer (some ⟨w.heap.size, 0, none⟩)] 222 (0, 0)) ∧
    (((w.alloc (.cells #[.string s] 226)).alloc (.cells #[.slice none 0 0] 99)).alloc (.cells #[.pointer (some ⟨w.heap.size, 0, none⟩)] 222)).heap.size = w.heap.size + 1 + 1 + 1 ∧
    Below w.heap.size w (((w.alloc (.cells #[.string s] 226)).alloc (.cells #[.slice none 0 0] 99)).alloc (.cells #[.pointer (some ⟨w.heap.size, 0, none⟩)] 222)) := by
  have h0 := World.alloc_heap_new w (.cells #[.string s] 226)
  have h1 := Boxed.new (w.alloc (.cells #[.string s] 226)) 99 (.slice none 0 0)
  have h2 := World.alloc_heap_new ((w.alloc (.cells #[.string s] 226)).alloc (.cells #[.slice none 0 0] 99)) (.cells #[.pointer (some ⟨w.heap.size, 0, none⟩)] 222)
  simp only [World.size_alloc] at h1 h2
  refine ⟨?_, h1.alloc _, h2, by simp, (((Below.refl _ w).alloc (Nat.le_refl _) _).alloc (by simp) _).alloc (by simp; omega) _⟩
  unfold Reads
  rw [Below.heap_alloc _ _ _ (by simp; omega), Below.heap_alloc _ _ _ (by simp)]
  exact h0

/-- What the loop of all holds between two rounds. -/
def AllI (w : World) (L n1 : Nat) (pre : List Nat) (W : World) : Prop :=
  (∃ v, Boxed W L 99 v ∧ W.ownsRow n1 3 1 v pre.length (pre.map fun d : Nat => Value.int .i64 (d : Int))) ∧ Below w.heap.size w W ∧ n1 ≤ W.heap.size ∧ W.heap[L + 1]? = some (.cells #[.pointer (some ⟨L - 1, 0, none⟩)] 222 (0, 0))

set_option maxRecDepth 100000 in
set_option maxHeartbeats 1000000 in
theorem all_any (s : ByteArray) (hs : s.size ≤ 1048576) (w : World) :
    Calls Tryz.prog 139 #[.string s] w fun e w' => (∃ v, e = .returned (.tuple #[v, .int .i64 (urest s.data.toList).length])) ∧ Below w.heap.size w w' := by
  obtain ⟨i0, hi, hz0, hz1, hz2⟩ := info_parts infoInt
  refine callsIn_wide.1 (callsIn_of_wp_marks (n := 10) Tryz.func139 rfl trivial ?_ rfl)
  simp only [Tryz.ntmps139, List.size_toArray, List.length_cons, List.length_nil, Nat.reduceAdd, Nat.reduceSub, Array.replicate_succ, Array.replicate_zero, List.push_toArray, List.append_toArray, List.nil_append, List.cons_append]
  refine wpIn_wide.2 ?_
  go_wp2_with fail
  refine (runes_any _ _).mono ?_
  rintro e W0 ⟨rfl, hW0⟩
  go_wp2_with fail
  have facts : Reads W0 w.heap.size s ∧ Boxed W0 (w.heap.size + 1) 99 (.slice none 0 0) ∧ W0.heap[w.heap.size + 1 + 1]? = some (.cells #[.pointer (some ⟨w.heap.size, 0, none⟩)] 222 (0, 0)) ∧
      W0.heap.size = w.heap.size + 1 + 1 + 1 ∧ Below w.heap.size w W0 := by
    rw [← hW0]
    exact all_blocks w s
  clear hW0
  obtain ⟨hR, hL, hp, hs0, hB0⟩ := facts
  refine (wpIn_wide (n := 10)).1 ?_
  refine wpIn_rangeSeqW (gf := 173) rfl (enters_of Tryz.func173 (by kernel_rfl) rfl)
    (runes_seq (w.heap.size + 1 + 1) w.heap.size s (by omega) (by omega) W0 hp hR) (fun k hk => by omega) (fun h k => ⟨k.1.trans h.1, k.2.trans h.2⟩)
    (fun W o => ⟨World.putObj_heap_other (by omega), World.putObj_heap_other (by omega)⟩)
    (fun xs W l o hl ⟨t, h1, h2⟩ => ⟨t, (World.putObj_heap_other (by omega)).trans h1, h2⟩) (fun _ => rfl)
    (AllI w (w.heap.size + 1) W0.heap.size) (fun _ _ _ => False) ?hI (fun _ _ _ _ h _ => h) ?h0 ?a1 ?assign ?body ?done ?stop
  case assign =>
    intro l x W K hK
    gi_wp2
    exact hK
  case hI =>
    rintro pre A B ⟨⟨v, hv, hrow⟩, hB, hn1, hpp⟩ hst
    exact ⟨⟨v, hst.cells hv (by omega), hst.row hrow (by omega)⟩, hst.below hB (by omega) (Nat.le_refl _) (by omega), Nat.le_trans hn1 hst.size, hst.cells hpp (by omega)⟩
  case h0 => exact ⟨⟨_, hL, World.ownsRow_nil _ _ _ _⟩, hB0, Nat.le_refl _, hp⟩
  case body =>
    rintro l pre x W hl ⟨⟨v, hv, hrow⟩, hB, hn1, hpp⟩ hok _
    have hc := hv.cell
    gi_wp2_with (gi_at_builtin; refine wpListIn_append_own _ rfl _ _ 99 rfl W0.heap.size 3 i0 (.int .i64 0) 1 8 Tryz.underlying99 hi hz0 hz1 hz2 rfl (by decide) _ _ _ rfl (hrow.alloc _) ⟨W.heap.size, 0, none⟩ 1 1 [.int .i64 x] rfl rfl (cell_one_new _ _ _) (by simp [Value.oneCell']) (by unfold maxLen; omega) (by omega) (by simp; omega) ?_; intro v' w2 hown' hgrow _; obtain ⟨g', cap', rfl⟩ := ownsRow_succ hown'; obtain ⟨hv1, hv2, hr2, hk2, hb2', hsm⟩ := box_append (n0 := w.heap.size) hv (by decide) hrow hn1 (by omega) (by omega) hown' hgrow; have hc1 := hv1.cell; have hf1 := hv1.frozen)
    exact ⟨hk2 _, ⟨hsm _ (by omega) (by omega), hsm _ (by omega) (by omega)⟩, ⟨_, hv2, by simpa using hr2⟩, hB.trans hb2', by have := hb2'.size; omega, (hsm _ (by omega) (by omega)).trans hpp⟩
  case done =>
    rintro D ys W hD ⟨t, hRt, hur⟩ ⟨⟨v, hv, hrow⟩, hB, hn1, hpp⟩ hK
    have hc := hv.cell
    have hc2 := cell_of_one hRt
    have hlen : Hid ((urest s.data.toList).length = t.size) := Lib.hid (by rw [← hur]; simp)
    clear hur
    gi_wp2_with fail
    go_wp2_with fail
    go_quiet (fail)
    go_wp2_with fail
    refine ⟨by simp, .inl ⟨_, _, rfl, run_takeDeferred (w := W.drewN nq) hK, ?_⟩⟩
    exact ⟨_, results_tmp2 rfl _ _ _, ⟨v, by rw [hlen.out]; rfl⟩, (below_drewN hB _).trans (below_putObj (by omega))⟩
  case stop =>
    rintro D c pre W _ _ h _
    exact h.elim

set_option maxRecDepth 100000 in
theorem Valid_any (s : ByteArray) (hs : s.size ≤ 1048576) (w : World) :
    Calls Tryz.prog 113 #[.string s] w fun e w' => (∃ k : Int, e = .returned (.tuple #[.int .i64 k, .bool (urest s.data.toList).isEmpty])) ∧ Below w.heap.size w w' := by
  have hl : (urest s.data.toList).length ≤ s.size := by
    have : ∀ (m : Nat) (l : List UInt8), l.length ≤ m → (urest l).length ≤ l.length := by
      intro m
      induction m with
      | zero => intro l h; cases hu : udec l with
        | none => rw [urest_none hu]; omega
        | some p => have := udec_len (r := p.1) (n := p.2) hu; omega
      | succ m ih => intro l h; cases hu : udec l with
        | none => rw [urest_none hu]; omega
        | some p =>
          have h1 := udec_len (r := p.1) (n := p.2) hu
          rw [urest_some (r := p.1) (n := p.2) hu]
          have := ih (l.drop p.2) (by rw [List.length_drop]; omega)
          rw [List.length_drop] at this; omega
    have := this _ s.data.toList (Nat.le_refl _)
    simpa using this
  have K := all_any s hs w
  have HE : Hid ((urest s.data.toList).isEmpty = (((urest s.data.toList).length : Int) == 0)) := by
    refine Lib.hid ?_
    cases urest s.data.toList with
    | nil => rfl
    | cons a l => simp; omega
  obtain ⟨E, hE⟩ : ∃ E, E = (urest s.data.toList).isEmpty := ⟨_, rfl⟩
  rw [← hE] at HE ⊢
  clear hE
  generalize (urest s.data.toList).length = n at *
  go_enter Tryz.func113, Tryz.ntmps113
  go_wp2_with fail
  refine K.mono ?_
  rintro e w1 ⟨⟨v, rfl⟩, hB⟩
  go_wp2_with fail
  go_ret2
  exact ⟨⟨_, by rw [HE.out]; rfl⟩, hB⟩
end Go.Proofs.YtkfaejnpgdbhlaaGreatDoor
