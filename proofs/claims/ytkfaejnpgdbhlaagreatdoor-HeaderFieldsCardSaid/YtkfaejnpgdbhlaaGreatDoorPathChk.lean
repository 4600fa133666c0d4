/-
  path's checked by contract: nil or errPath, by whether a text is a path.
-/
import Derived.Test.YtkfaejnpgdbhlaaGreatDoorPathNot
import Derived.Test.YtkfaejnpgdbhlaaGreatDoorUtfValid
namespace Go.Proofs.YtkfaejnpgdbhlaaGreatDoor
open Go.RowKit Go.Shelf
attribute [local go_sem] Oper.semAt_some

theorem grown_keeps {A C : World} {pb B : Nat} (h : A.grownBy C (some pb)) (hp : pb < B) : KeepsAll B A C := fun k o hk ho => (h.block k (lt_block ho) (by simp; omega)).trans ho
theorem KeepsAll.setCell {A C : World} {B : Nat} (h : KeepsAll B A C) {a : Addr} (ha : a.block < B) (v : Value) : KeepsAll B A (C.setCell a v) := fun k o hk ho => (Below.heap_setCell _ _ _ _ (by omega)).trans (h k o hk ho)
theorem NotAt.steps {A C : World} {pb b base : Nat} {s : ByteArray} (h : NotAt A pb s (fun g => ¬ PartsOwn b g)) (hs : Steps (PartsOwn b) base A C) (hpb : pb < b) : NotAt C pb s (fun g => ¬ PartsOwn b g) := by
  have hn : ¬ PartsOwn b pb := fun h => by have := h.1; omega
  rcases h with h | ⟨g, h, hg, hPg⟩
  · exact .inl (hs.cells h hn)
  · exact .inr ⟨g, hs.cells h hn, hs.cells hg hPg, hPg⟩
theorem NotAt.grown {A C : World} {pb : Nat} {s : ByteArray} {Pg : Nat → Prop} (h : NotAt A pb s Pg) {r : Nat} (hr : A.grownBy C (some r)) (h1 : pb ≠ r) (h2 : ¬ Pg r) : NotAt C pb s Pg := by
  rcases h with h | ⟨g, h, hg, hPg⟩
  · exact .inl ((hr.block _ (lt_block h) (by simpa using h1)).trans h)
  · exact .inr ⟨g, (hr.block _ (lt_block h) (by simpa using h1)).trans h, (hr.block _ (lt_block hg) (by rintro e; cases e; exact h2 hPg)).trans hg, hPg⟩

theorem NotAt.text {W : World} {pb : Nat} {s : ByteArray} {Pg : Nat → Prop} (h : NotAt W pb s Pg) : W.cell? ⟨pb, 0, none⟩ = some (.string s) := by
  rcases h with h | ⟨g, h, _⟩ <;> simp [World.cell?, h, PathCells]

/-- What the loop of checked holds between two rounds, and behind it. -/
structure ChkI (w : World) (pb eb q b : Nat) (s : ByteArray) (ev : Value) (A : World) : Prop where
  path : NotAt A pb s (fun g => ¬ PartsOwn b g ∧ g ≠ eb)
  err : A.heap[eb]? = some (.cells #[ev] 46 (0, 0))
  box : A.heap[q]? = some (.cells #[.pointer (some ⟨pb, 0, none⟩)] 130 (0, 0))
  grown : w.grownBy A (some pb)
theorem ChkI.steps {w A C : World} {pb eb q b base : Nat} {s : ByteArray} {ev : Value} (h : ChkI w pb eb q b s ev A) (hs : Steps (PartsOwn b) base A C) (hpb : pb < b) (heb : eb < b) (hq : q < b) (hw : w.heap.size ≤ base) (hb : w.heap.size ≤ b) : ChkI w pb eb q b s ev C := by
  refine ⟨?_, hs.cells h.err (fun h => by have := h.1; omega), hs.cells h.box (fun h => by have := h.1; omega), grown_steps h.grown hs (fun k hk h => by have := h.1; omega) hw⟩
  have hn : ¬ PartsOwn b pb := fun h => by have := h.1; omega
  rcases h.path with h | ⟨g, h, hg, hPg⟩
  · exact .inl (hs.cells h hn)
  · exact .inr ⟨g, hs.cells h hn, hs.cells hg hPg.1, hPg⟩

theorem chk_blocks (w : World) (pb : Nat) (s : ByteArray) :
    (((w.alloc (.cells #[.pointer (some ⟨pb, 0, none⟩)] 130)).alloc (.cells #[.nilIface] 46)).alloc (.cells #[.string s] 161)).heap[w.heap.size]? = some (.cells #[.pointer (some ⟨pb, 0, none⟩)] 130 (0, 0)) ∧
    (((w.alloc (.cells #[.pointer (some ⟨pb, 0, none⟩)] 130)).alloc (.cells #[.nilIface] 46)).alloc (.cells #[.string s] 161)).heap[w.heap.size + 1]? = some (.cells #[.nilIface] 46 (0, 0)) ∧
    (((w.alloc (.cells #[.pointer (some ⟨pb, 0, none⟩)] 130)).alloc (.cells #[.nilIface] 46)).alloc (.cells #[.string s] 161)).heap[w.heap.size + 1 + 1]? = some (.cells #[.string s] 161 (0, 0)) ∧
    (((w.alloc (.cells #[.pointer (some ⟨pb, 0, none⟩)] 130)).alloc (.cells #[.nilIface] 46)).alloc (.cells #[.string s] 161)).heap.size = w.heap.size + 1 + 1 + 1 ∧
    w.grownBy (((w.alloc (.cells #[.pointer (some ⟨pb, 0, none⟩)] 130)).alloc (.cells #[.nilIface] 46)).alloc (.cells #[.string s] 161)) none := by
  have h0 := World.alloc_heap_new w (.cells #[.pointer (some ⟨pb, 0, none⟩)] 130)
  have h1 := World.alloc_heap_new (w.alloc (.cells #[.pointer (some ⟨pb, 0, none⟩)] 130)) (.cells #[.nilIface] 46)
  have h2 := World.alloc_heap_new ((w.alloc (.cells #[.pointer (some ⟨pb, 0, none⟩)] 130)).alloc (.cells #[.nilIface] 46)) (.cells #[.string s] 161)
  simp only [World.size_alloc] at h1 h2
  refine ⟨?_, ?_, h2, by simp, grown_alloc (grown_alloc (grown_alloc (World.grownBy.refl _ _) _) _) _⟩
  · rw [Below.heap_alloc _ _ _ (by simp; omega), Below.heap_alloc _ _ _ (by simp)]
    exact h0
  · rw [Below.heap_alloc _ _ _ (by simp)]
    exact h1

set_option maxRecDepth 100000 in
set_option maxHeartbeats 1000000 in
theorem checked_any (s : ByteArray) (hs : s.size ≤ 1048576) (pb : Nat) (ea : Addr) (w : World) (hp : w.heap[pb]? = some (PathCells s 0 0 (.slice none 0 0))) (hE : w.cell? ⟨3, 0, none⟩ = some (.iface 252 (.pointer (some ea)))) (hne : 3 ≠ pb) :
    Calls Tryz.prog 86 #[.pointer (some ⟨pb, 0, none⟩)] w fun e w' => e = .returned (if rightL s.data.toList = true then .nilIface else .iface 252 (.pointer (some ea))) ∧ w.grownBy w' (some pb) := by
  have kp := lt_block hp
  have kg : 3 < w.heap.size := World.block_lt_of_cell? _ _ hE
  have ct : (w.alloc (.cells #[.pointer (some ⟨pb, 0, none⟩)] 130)).cell? ⟨pb, 0, none⟩ = some (.string s) := by
    have := (Below.heap_alloc w (.cells #[.pointer (some ⟨pb, 0, none⟩)] 130) pb kp).trans hp
    simp [World.cell?, this, PathCells]
  have ct0 : w.cell? ⟨pb, 0, none⟩ = some (.string s) := by simp [World.cell?, hp, PathCells]
  refine callsIn_wide.1 (callsIn_of_wp_marks (n := 10) Tryz.func86 rfl trivial ?_ rfl)
  simp only [Tryz.ntmps86, List.size_toArray, List.length_cons, List.length_nil, Nat.reduceAdd, Nat.reduceSub, Array.replicate_succ, Array.replicate_zero, List.push_toArray, List.append_toArray, List.nil_append, List.cons_append]
  refine wpIn_wide.2 ?_
  go_wp2_with fail
  go_step3
  go_wp2_with fail
  go_step3
  go_wp2_with fail
  refine (parts_any s _).mono ?_
  rintro e W0 ⟨rfl, hW0⟩
  go_wp2_with fail
  have facts := chk_blocks w pb s
  rw [hW0] at facts
  clear hW0
  obtain ⟨hq, heb, htb, hz, hB0⟩ := facts
  refine (wpIn_wide (n := 10)).1 ?_
  refine wpIn_rangeSeqW (gf := 135) rfl (enters_of Tryz.func135 (by kernel_rfl) rfl)
    (parts_seq (w.heap.size + 1 + 1) s (by omega) W0 htb) (fun k hk => by have := hk.1; omega) (fun h k => h.trans k)
    (fun W o k o' hk ho => (World.putObj_heap_other (by omega)).trans ho)
    (fun xs W l o hl h => h) (fun _ => rfl)
    (fun pre A => (∀ x ∈ pre, isNotL x = false) ∧ ChkI w pb (w.heap.size + 1) w.heap.size (W0.heap.size + 1 + 1) s .nilIface A)
    (fun c _ A => c = .exit 0 ∧ (∃ x ∈ cutsL s.data.toList, isNotL x = true) ∧ ChkI w pb (w.heap.size + 1) w.heap.size (W0.heap.size + 1 + 1) s (.iface 252 (.pointer (some ea))) A) ?hI ?hIx ?h0 ?a1 ?assign ?body ?done ?stop
  case assign =>
    intro l x W K hK
    gi_wp2
    exact hK
  case hI =>
    rintro pre A B ⟨hpre, hc⟩ hst
    exact ⟨hpre, hc.steps hst (by omega) (by omega) (by omega) (by omega) (by omega)⟩
  case hIx =>
    rintro c pre A B ⟨hcc, hpre, hc⟩ hst
    exact ⟨hcc, hpre, hc.steps hst (by omega) (by omega) (by omega) (by omega) (by omega)⟩
  case h0 => exact ⟨fun x hx => (by cases hx), .inl ((hB0.block _ kp (by simp)).trans hp), heb, hq, ⟨hB0.os, hB0.tape, hB0.output, hB0.size, fun k hk _ => hB0.block k hk (by simp)⟩⟩
  case body =>
    rintro l2 pre x W1 hl ⟨hpre, hc⟩ hok hex
    have cq := cell_of_one hc.box
    have KN := isNot_any pb s _ x W1 hc.path (fun g hg => ⟨fun h => by have := hex g h; omega, fun h => by have := lt_block hc.err; omega⟩)
    have hl1 := lt_block hc.err
    have hl2 := lt_block hc.box
    gi_wp2_with (
      refine ⟨trivial, (callsIn_nest (callsIn_wide.2 KN)).mono ?_⟩
      rintro e W2 ⟨rfl, hN, hG⟩
      have hGG := hc.grown.trans hG
      have cE := hGG.cell hE (by simpa using hne)
      have he2 : W2.heap[w.heap.size + 1]? = some (.cells #[.nilIface] 46 (0, 0)) := (hG.block _ hl1 (by simp; omega)).trans hc.err
      have hb2 : W2.heap[w.heap.size]? = some (.cells #[.pointer (some ⟨pb, 0, none⟩)] 130 (0, 0)) := (hG.block _ hl2 (by simp; omega)).trans hc.box
      have ce := cell_of_one he2
      have fe := free_of_one he2
      clear KN
      cases hb : isNotL x)
    · exact ⟨(grown_keeps hG (by omega)).rec (Nat.le_refl _), grown_keeps hG (by omega), fun y hy => (List.mem_append.1 hy).elim (hpre y) (fun h => by rw [List.mem_singleton.1 h]; exact hb), ⟨hN, he2, hb2, hGG⟩⟩
    · have kk := (grown_keeps hG (B := w.heap.size + 1 + 1) (by omega)).setCell (a := ⟨w.heap.size + 1, 0, none⟩) (by simp) (.iface 252 (.pointer (some ea)))
      refine ⟨kk.rec (by omega), fun k o hk ho => kk k o (by omega) ho, rfl, ⟨x, hok.subset (by simp), hb⟩, ⟨?_, one_setCell (u := .iface 252 (.pointer (some ea))) he2, (Below.heap_setCell _ _ _ _ (by simp)).trans hb2, grown_set_new hGG (by omega) _⟩⟩
      exact hN.grown (grown_set (World.grownBy.refl _ _) _) (by omega) (fun h => h.2 rfl)
  case done =>
    rintro D ys W1 hD rfl ⟨hpre, hc⟩ hK
    have cq := cell_of_one hc.box
    have ct1 := hc.path.text
    gi_wp2_with fail
    go_wp2_with fail
    refine (Valid_any s hs _).mono ?_
    rintro e W2 ⟨⟨kv, rfl⟩, hB⟩
    have hG := grown_below hc.grown hB
    have he2 : W2.heap[w.heap.size + 1]? = some (.cells #[.nilIface] 46 (0, 0)) := (hB.block _ (lt_block hc.err)).trans hc.err
    have cq2 := (hB.cell (World.block_lt_of_cell? _ _ cq)).trans cq
    have ct2 := (hB.cell (World.block_lt_of_cell? _ _ ct1)).trans ct1
    have cE := hG.cell hE (by simpa using hne)
    have ce := cell_of_one he2
    have fe := free_of_one he2
    have hK2 := (hB.block _ (lt_block hK)).trans hK
    have hD2 : D ≠ w.heap.size + 1 := by omega
    have hfin : w.grownBy (W2.setCell ⟨w.heap.size + 1, 0, none⟩ (.iface 252 (.pointer (some ea)))) (some pb) := grown_set_new hG (by omega) _
    have hK3 : (W2.setCell ⟨w.heap.size + 1, 0, none⟩ (.iface 252 (.pointer (some ea)))).heap[D]? = some (.deferred (some [])) := (Below.heap_setCell _ _ _ _ hD2).trans hK2
    have hput : ∀ A : World, w.grownBy A (some pb) → w.grownBy (A.putObj D (.deferred none)) (some pb) := fun A h => ⟨h.os, h.tape, h.output, by simpa using h.size, fun k hk hn => (World.putObj_heap_other (by omega)).trans (h.block k hk hn)⟩
    clear hc cq ct1
    cases hu : (urest s.data.toList).isEmpty
    · have hR : rightL s.data.toList = false := by simp [rightL, hu]
      go_wp2_with fail
      refine ⟨by simp, .inl ⟨_, _, rfl, run_takeDeferred hK3, ?_⟩⟩
      exact ⟨_, results_tmp rfl _ _ _, by rw [hR]; rfl, hput _ hfin⟩
    · by_cases hl : 250 < s.size
      · have hR : rightL s.data.toList = false := by
          have : ¬ s.data.toList.length ≤ 250 := by simpa using hl
          simp [rightL]; omega
        have hl1 : (250 : Int) < s.size := by omega
        go_wp2_with fail
        refine ⟨by simp, .inl ⟨_, _, rfl, run_takeDeferred hK3, ?_⟩⟩
        exact ⟨_, results_tmp rfl _ _ _, by rw [hR]; rfl, hput _ hfin⟩
      · have hR : rightL s.data.toList = true := by
          have h1 : (cutsL s.data.toList).all (fun p => !isNotL p) = true := List.all_eq_true.2 fun x hx => by simp [hpre x hx]
          have h2 : s.data.toList.length ≤ 250 := by simpa using (by omega : s.size ≤ 250)
          unfold rightL
          rw [h1, hu, decide_eq_true h2]; rfl
        have hl1 : ¬ (250 : Int) < s.size := by omega
        go_wp2_with fail
        refine ⟨by simp, .inl ⟨_, _, rfl, run_takeDeferred hK2, ?_⟩⟩
        exact ⟨_, results_tmp rfl _ _ _, by rw [hR]; rfl, hput _ hG⟩
  case stop =>
    rintro D c pre W1 hD _ ⟨rfl, ⟨x, hx, hxn⟩, hc⟩ hK
    have cq := cell_of_one hc.box
    have ct1 := hc.path.text
    gi_wp2_with fail
    go_wp2_with fail
    refine (Valid_any s hs _).mono ?_
    rintro e W2 ⟨⟨kv, rfl⟩, hB⟩
    have hG := grown_below hc.grown hB
    have he2 : W2.heap[w.heap.size + 1]? = some (.cells #[.iface 252 (.pointer (some ea))] 46 (0, 0)) := (hB.block _ (lt_block hc.err)).trans hc.err
    have cq2 := (hB.cell (World.block_lt_of_cell? _ _ cq)).trans cq
    have ct2 := (hB.cell (World.block_lt_of_cell? _ _ ct1)).trans ct1
    have cE := hG.cell hE (by simpa using hne)
    have ce := cell_of_one he2
    have fe := free_of_one he2
    have hK2 := (hB.block _ (lt_block hK)).trans hK
    have hD2 : D ≠ w.heap.size + 1 := by omega
    have hfin : w.grownBy (W2.setCell ⟨w.heap.size + 1, 0, none⟩ (.iface 252 (.pointer (some ea)))) (some pb) := grown_set_new hG (by omega) _
    have hK3 : (W2.setCell ⟨w.heap.size + 1, 0, none⟩ (.iface 252 (.pointer (some ea)))).heap[D]? = some (.deferred (some [])) := (Below.heap_setCell _ _ _ _ hD2).trans hK2
    have hput : ∀ A : World, w.grownBy A (some pb) → w.grownBy (A.putObj D (.deferred none)) (some pb) := fun A h => ⟨h.os, h.tape, h.output, by simpa using h.size, fun k hk hn => (World.putObj_heap_other (by omega)).trans (h.block k hk hn)⟩
    clear hc cq ct1
    cases hu : (urest s.data.toList).isEmpty
    · have hR : rightL s.data.toList = false := by simp [rightL, hu]
      go_wp2_with fail
      refine ⟨by simp, .inl ⟨_, _, rfl, run_takeDeferred hK3, ?_⟩⟩
      exact ⟨_, results_tmp rfl _ _ _, by rw [hR]; rfl, hput _ hfin⟩
    · by_cases hl : 250 < s.size
      · have hR : rightL s.data.toList = false := by
          have : ¬ s.data.toList.length ≤ 250 := by simpa using hl
          simp [rightL]; omega
        have hl1 : (250 : Int) < s.size := by omega
        go_wp2_with fail
        refine ⟨by simp, .inl ⟨_, _, rfl, run_takeDeferred hK3, ?_⟩⟩
        exact ⟨_, results_tmp rfl _ _ _, by rw [hR]; rfl, hput _ hfin⟩
      · have hR : rightL s.data.toList = false := by
          have h1 : (cutsL s.data.toList).all (fun p => !isNotL p) = false := by
            rw [Bool.eq_false_iff]
            intro h
            have := List.all_eq_true.1 h x hx
            rw [hxn] at this; cases this
          simp [rightL, h1]
        have hl1 : ¬ (250 : Int) < s.size := by omega
        go_wp2_with fail
        refine ⟨by simp, .inl ⟨_, _, rfl, run_takeDeferred hK2, ?_⟩⟩
        exact ⟨_, results_tmp rfl _ _ _, by rw [hR]; rfl, hput _ hG⟩
end Go.Proofs.YtkfaejnpgdbhlaaGreatDoor
