/-
  num.Put by contract: a number's digits, for every base, number and world.
-/
import Derived.Test.YtkfaejnpgdbhlaaGreatDoorNumRev
import Derived.Test.YtkfaejnpgdbhlaaGreatDoorReverse
import Derived.Test.YtkfaejnpgdbhlaaGreatDoorBox
import Derived.RangeFuncBox
import Derived.Maps.AppendAt
import Derived.Laws.IdiomStrings
namespace Go.Proofs.YtkfaejnpgdbhlaaGreatDoor
open Go.RowKit Go.Shelf
attribute [local go_sem] Oper.semAt_some

/-- The digits of a number, as bytes. -/
def putL (b n : Nat) : List UInt8 := (rdig b n).reverse.map fun d => UInt8.ofNat (code d)

theorem infoByte : (Tryz.prog.info? 5).map (fun i => (i.zero, i.size, i.bytes)) = some (some (.int .u8 0), 1, 1) := by kernel_rfl

theorem rdig_length (b n : Nat) (hb : 2 ≤ b) (hn : n < 18446744073709551616) : (rdig b n).length ≤ 64 := by
  have key : ∀ k n, n < 2 ^ (k + 1) → (rdig b n).length ≤ k + 1 := by
    intro k
    induction k with
    | zero => intro n hn; rw [rdig_step hb, if_pos (Nat.div_eq_of_lt (by omega))]; simp
    | succ k ih =>
      intro n hn
      rw [rdig_step hb]
      split
      · simp
      · have h2 : n / b < 2 ^ (k + 1) := by
          have : n / b ≤ n / 2 := Nat.div_le_div_left hb (by omega)
          have h3 : n / 2 < 2 ^ (k + 1) := by rw [Nat.pow_succ] at hn; omega
          omega
        have := ih _ h2
        simp; omega
  exact key 63 n (by omega)

theorem rdig_pos (b n : Nat) : 1 ≤ (rdig b n).length := by
  rw [rdig]; split <;> simp

theorem revRel_of_row {W : World} {n1 : Nat} {v : Value} {l : List Nat} (h : W.ownsRow n1 5 1 v l.length (l.map fun d => Value.int .u8 (code d))) (h0 : 1 ≤ l.length) :
    ∃ g cap, v = .slice (some ⟨g, 0, none⟩) l.length cap ∧ n1 ≤ g ∧ RevRel W W g l.length cap (fun p => code (l.getD p 0)) := by
  obtain ⟨_, h2⟩ := h
  rcases h2 with ⟨_, h2⟩ | ⟨g, cap, cur, hv, hg, hh, hn, _, hs, ht⟩
  · omega
  · refine ⟨g, cap, hv, hg, ⟨cur, hh, by omega, fun p hp => ?_⟩, ⟨rfl, rfl, rfl, Nat.le_refl _, fun _ _ _ => rfl⟩⟩
    have e : (cur.toList.take (l.length * 1))[p]? = (l.map fun d => Value.int .u8 (code d))[p]? := by rw [ht]
    rw [List.getElem?_take_of_lt (by omega)] at e
    simp only [List.getElem?_map, List.getElem?_eq_getElem hp, Option.map_some, Array.getElem?_toList] at e
    rw [e]
    show _ = some (Value.int .u8 (code (l.getD p 0)))
    rw [List.getD_eq_getElem?_getD, List.getElem?_eq_getElem hp]
    rfl

theorem code_lt (d : Nat) (h : d < 16) : code d < 256 := by unfold code; split <;> omega
theorem rdig_lt {b : Nat} (hb : b ≤ 16) (hb2 : 2 ≤ b) : ∀ n d, d ∈ rdig b n → d < 16 := by
  intro n
  induction n using Nat.strongRecOn with
  | _ n ih =>
    intro d hd
    have hm := Nat.mod_lt n (show 0 < b by omega)
    rw [rdig_step hb2] at hd
    rcases List.mem_cons.1 hd with h | h
    · omega
    · split at h
      · cases h
      · rename_i hq
        rcases Nat.eq_zero_or_pos n with h0 | h0
        · subst h0; simp at hq
        · exact ih (n / b) (Nat.div_lt_self h0 (by omega)) d h

theorem convert_back {W W2 : World} {b n g cap : Nat} (hb : b ≤ 16) (hb2 : 2 ≤ b) (h : RevRel W W2 g (rdig b n).length cap (fun p => code ((rdig b n).getD ((rdig b n).length - 1 - p) 0))) :
    (convert 35 9 (.slice (some ⟨g, 0, none⟩) (rdig b n).length cap)).run Tryz.prog W2 = .ok (.string ⟨(putL b n).toArray⟩) W2 := by
  have hl : (putL b n).length = (rdig b n).length := by simp [putL]
  rw [← hl]
  refine run_convert_bytes_back W2 35 9 5 ⟨g, 0, none⟩ cap (putL b n) Tryz.underlying35 Tryz.underlying5 Tryz.underlying9 fun j hj => ?_
  rw [hl] at hj
  have hc := h.cell hj
  have e : Addr.add ⟨g, 0, none⟩ j = ⟨g, j, none⟩ := by simp only [Addr.add, Nat.zero_add]; split <;> simp_all
  rw [e, hc]
  have hm : (rdig b n)[(rdig b n).length - 1 - j] ∈ rdig b n := List.getElem_mem (by omega)
  have hc16 := code_lt _ (rdig_lt hb hb2 n _ hm)
  simp [putL, List.getD_eq_getElem?_getD, List.getElem?_eq_getElem (show (rdig b n).length - 1 - j < (rdig b n).length by omega)]
  omega

theorem below_putObj {B D : Nat} {W : World} {o : Obj} (h : B ≤ D) : Below B W (W.putObj D o) :=
  ⟨rfl, rfl, rfl, by simp, fun k hk => World.putObj_heap_other (by omega)⟩

/-- b.reversed(n): both are boxed; the function value captures the boxes. -/
theorem reversed_any (b n : Int) (s : ByteArray) (w : World) :
    Calls Tryz.prog 120 #[.agg #[.int .u64 b, .string s], .int .u64 n] w fun e w' =>
      e = .returned (.func (.func 144) #[] #[.pointer (some ⟨w.heap.size, 0, none⟩), .pointer (some ⟨w.heap.size + 1, 0, none⟩)]) ∧
      (w.alloc (.cells #[.int .u64 b, .string s] 172)).alloc (.cells #[.int .u64 n] 23) = w' := by
  go_enter Tryz.func120, Tryz.ntmps120
  go_wp2
  go_ret
  exact ⟨rfl, rfl⟩

theorem put_blocks (w w1 : World) (C1 C2 C3 : Array Value) (v : Value) (hB : Below w.heap.size w w1) :
    Boxed ((((w1.alloc (.cells C1 172)).alloc (.cells #[v] 35)).alloc (.cells C2 172)).alloc (.cells C3 23)) (w1.heap.size + 1) 35 v ∧
    ((((w1.alloc (.cells C1 172)).alloc (.cells #[v] 35)).alloc (.cells C2 172)).alloc (.cells C3 23)).heap[w1.heap.size + 1 + 1]? = some (.cells C2 172 (0, 0)) ∧
    ((((w1.alloc (.cells C1 172)).alloc (.cells #[v] 35)).alloc (.cells C2 172)).alloc (.cells C3 23)).heap[w1.heap.size + 1 + 1 + 1]? = some (.cells C3 23 (0, 0)) ∧
    ((((w1.alloc (.cells C1 172)).alloc (.cells #[v] 35)).alloc (.cells C2 172)).alloc (.cells C3 23)).heap.size = w1.heap.size + 1 + 1 + 1 + 1 ∧
    Below w.heap.size w ((((w1.alloc (.cells C1 172)).alloc (.cells #[v] 35)).alloc (.cells C2 172)).alloc (.cells C3 23)) := by
  have hz := hB.size
  have h1 := Boxed.new (w1.alloc (.cells C1 172)) 35 v
  have h2 := World.alloc_heap_new ((w1.alloc (.cells C1 172)).alloc (.cells #[v] 35)) (.cells C2 172)
  have h3 := World.alloc_heap_new (((w1.alloc (.cells C1 172)).alloc (.cells #[v] 35)).alloc (.cells C2 172)) (.cells C3 23)
  simp only [World.size_alloc] at h1 h2 h3
  refine ⟨(h1.alloc _).alloc _, ?_, h3, by simp, (((hB.alloc hz _).alloc (by simp; omega) _).alloc (by simp; omega) _).alloc (by simp; omega) _⟩
  rw [Below.heap_alloc _ _ _ (by simp)]
  exact h2

/-- What the loop of Put holds between two rounds. -/
def PutI (w : World) (L n1 : Nat) (pre : List Nat) (W : World) : Prop :=
  (∃ v, Boxed W L 35 v ∧ W.ownsRow n1 5 1 v pre.length (pre.map fun d => Value.int .u8 (code d))) ∧ Below w.heap.size w W ∧ n1 ≤ W.heap.size

set_option maxRecDepth 100000 in
set_option maxHeartbeats 1000000 in
theorem Put_base (b : Nat) (hb : b = 8 ∨ b = 10 ∨ b = 16) (n : Nat) (hn : n < 18446744073709551616) (w : World) :
    Calls Tryz.prog 90 #[.int .i64 b, .int .u64 n] w fun e w' => e = .returned (.string ⟨(putL b n).toArray⟩) ∧ Below w.heap.size w w' := by
  obtain ⟨i0, hi, hz0, hz1, hz2⟩ := info_parts infoByte
  refine callsIn_wide.1 (callsIn_of_wp_marks (n := 10) Tryz.func90 rfl trivial ?_ rfl)
  simp only [Tryz.ntmps90, List.size_toArray, List.length_cons, List.length_nil, Nat.reduceAdd, Nat.reduceSub, Array.replicate_succ, Array.replicate_zero, List.push_toArray, List.append_toArray, List.nil_append, List.cons_append]
  refine wpIn_wide.2 ?_
  go_wp2_with fail
  refine (of_base b (by omega) _).mono ?_
  rintro e w1 ⟨rfl, hB1⟩
  have hz := hB1.size
  go_wp2_with fail
  refine (reversed_any _ _ _ _).mono ?_
  rintro e W0 ⟨rfl, hW0⟩
  go_wp2_with fail
  have facts : Boxed W0 (w1.heap.size + 1) 35 (.slice none 0 0) ∧ W0.heap[w1.heap.size + 1 + 1]? = some (.cells #[.int .u64 b, .string (digStr b)] 172 (0, 0)) ∧ W0.heap[w1.heap.size + 1 + 1 + 1]? = some (.cells #[.int .u64 n] 23 (0, 0)) ∧
      W0.heap.size = w1.heap.size + 1 + 1 + 1 + 1 ∧ Below w.heap.size w W0 := by
    rw [← hW0]
    exact put_blocks w w1 _ _ _ _ hB1
  clear hW0
  obtain ⟨hL, hb1, hb2, hs0, hB0⟩ := facts
  clear hB1
  generalize w1.heap.size = S at *
  refine (wpIn_wide (n := 10)).1 ?_
  refine wpIn_rangeSeq (gf := 144) rfl (enters_of Tryz.func144 (by kernel_rfl) rfl)
    (reversed_seq (S + 1 + 1) (S + 1 + 1 + 1) b n hn (by omega) (by omega) (by omega) W0 hb1 hb2) (fun k hk => by rw [hk]; omega) (fun h k => ⟨k.1.trans h.1, k.2.trans h.2⟩)
    (fun W l o hl => ⟨World.putObj_heap_other (by omega), World.putObj_heap_other (by omega)⟩) (fun _ => rfl)
    (PutI w (S + 1) W0.heap.size) (fun _ _ _ => False) ?hI (fun _ _ _ _ h _ => h) ?h0 ?a1 ?assign ?body ?done ?stop
  case assign =>
    intro l x W K hK
    gi_wp2
    exact hK
  case hI =>
    rintro pre A B ⟨⟨v, hv, hrow⟩, hB, hn1⟩ hst
    exact ⟨⟨v, hst.cells hv (by omega), hst.row hrow (by omega)⟩, hst.below hB (by omega) (Nat.le_refl _) (by omega), Nat.le_trans hn1 hst.size⟩
  case h0 => exact ⟨⟨_, hL, World.ownsRow_nil _ _ _ _⟩, hB0, Nat.le_refl _⟩
  case body =>
    rintro l pre x W hl ⟨⟨v, hv, hrow⟩, hB, hn1⟩ hok
    have hc := hv.cell
    have hlen : pre.length ≤ 64 := by
      have h1 := hok.length_le
      have h2 := rdig_length b n (by omega) hn
      simp at h1; omega
    gi_wp2_with (gi_at_builtin; refine wpListIn_append_own _ rfl _ _ 35 rfl W0.heap.size 5 i0 (.int .u8 0) 1 1 Tryz.underlying35 hi hz0 hz1 hz2 rfl (by decide) _ _ _ rfl (hrow.alloc _) ⟨W.heap.size, 0, none⟩ 1 1 [.int .u8 (code x)] rfl rfl (cell_one_new _ _ _) (by simp [Value.oneCell']) (by unfold maxLen; omega) (by omega) (by simp; omega) ?_; intro v' w2 hown' hgrow _; obtain ⟨g', cap', rfl⟩ := ownsRow_succ hown'; obtain ⟨hv1, hv2, hr2, hk2, hb2', hsm⟩ := box_append (n0 := w.heap.size) hv (by decide) hrow hn1 (by omega) (by omega) hown' hgrow; have hc1 := hv1.cell; have hf1 := hv1.frozen)
    exact ⟨hk2 _, ⟨hsm _ (by omega) (by omega), hsm _ (by omega) (by omega)⟩, ⟨_, hv2, by simpa using hr2⟩, hB.trans hb2', by have := hb2'.size; omega⟩
  case done =>
    rintro D ys W hD rfl ⟨⟨v, hv, hrow⟩, hB, hn1⟩ hK
    have hc := hv.cell
    have hl0 := rdig_pos b n
    have hl1 := rdig_length b n (by omega) hn
    obtain ⟨g, cap, hvg, hg, hRR⟩ := revRel_of_row hrow hl0
    subst hvg
    have hgS : g ≠ S + 1 := by omega
    have hgw : w.heap.size ≤ g := by omega
    have hrev := Reverse_any g (rdig b n).length cap _ hl0 (by omega) W hRR
    gi_wp2_with fail
    go_wp2_with fail
    refine hrev.mono ?_
    rintro e W2 ⟨rfl, hR2⟩
    have hc2 := (hv.kept hR2.2 (by simp; omega)).cell
    have hconv := convert_back (by omega) (by omega) hR2
    have hK2 : W2.heap[D]? = some (.deferred (some [])) := (hR2.2.block D (Array.getElem?_eq_some_iff.1 hK).1 (fun e => by
      obtain ⟨⟨cur, h1, _⟩, _⟩ := hRR
      cases e; rw [h1] at hK; cases hK)).trans hK
    have hB2 : Below w.heap.size w W2 := hB.grown hR2.2 hB.size (fun k e => by cases e; exact hgw)
    clear hrev hc
    go_wp2_with fail
    refine ⟨by simp, .inl ⟨_, _, rfl, run_takeDeferred hK2, ?_⟩⟩
    exact ⟨_, results_tmp rfl _ _ _, rfl, hB2.trans (below_putObj (by omega))⟩
  case stop =>
    rintro D c pre W _ _ h _
    exact h.elim

set_option maxRecDepth 100000 in
theorem Put_none (n : Int) (hw : (Lit.int .i64 n).wf = true) (h8 : n ≠ 8) (h10 : n ≠ 10) (h16 : n ≠ 16) (x : Int) (w : World) {a1 a2 : Addr} (hE : NumErrs w a1 a2) :
    Calls Tryz.prog 90 #[.int .i64 n, .int .u64 x] w fun e w' => e = .returned (.string ⟨#[]⟩) ∧ Below w.heap.size w w' := by
  have hk := of_none n hw h8 h10 h16 w hE
  clear h8 h10 h16 hw
  go_enter Tryz.func90, Tryz.ntmps90
  go_wp2_with fail
  refine hk.mono ?_
  rintro e w1 ⟨rfl, hB1⟩
  have hz := hB1.size
  go_wp2_with fail
  go_ret
  exact ⟨rfl, hB1.alloc hz _⟩
end Go.Proofs.YtkfaejnpgdbhlaaGreatDoor
