/-
  A range over a function whose iterator keeps state in cells of its own: what the iterator promises, and the law for the caller's loop, for every program.
-/
import Derived.RangeFuncRecord
import Derived.RangeFuncLeaves
import Derived.ControlIn
import Derived.Below
import Derived.WalkKit
import Derived.WalkSmall
namespace Go.Proofs.YtkfaejnpgdbhlaaGreatDoor
open Go.RowKit

/-- What an iterator may do to the world between two calls of yield: it may turn its own blocks ('own'), and whatever is no cells from 'base' on; it may lay new blocks. -/
structure Steps (own : Nat → Prop) (base : Nat) (A B : World) : Prop where
  os : B.os = A.os
  tape : B.tape = A.tape
  output : B.output = A.output
  size : A.heap.size ≤ B.heap.size
  same : ∀ k o, A.heap[k]? = some o → ¬ own k → ((∃ c t m, o = .cells c t m) ∨ k < base) → B.heap[k]? = some o

variable {own : Nat → Prop} {base : Nat}

theorem Steps.refl (A : World) : Steps own base A A := ⟨rfl, rfl, rfl, Nat.le_refl _, fun _ _ h _ _ => h⟩
theorem Steps.trans {A B C : World} (h : Steps own base A B) (k : Steps own base B C) : Steps own base A C :=
  ⟨k.os.trans h.os, k.tape.trans h.tape, k.output.trans h.output, Nat.le_trans h.size k.size, fun i o hi hn hc => k.same i o (h.same i o hi hn hc) hn hc⟩
theorem Steps.lower {A B : World} {b' : Nat} (h : Steps own base A B) (hb : b' ≤ base) : Steps own b' A B :=
  ⟨h.os, h.tape, h.output, h.size, fun k o hk hn hc => h.same k o hk hn (hc.imp id (fun x => Nat.lt_of_lt_of_le x hb))⟩
theorem Steps.alloc (A : World) (o : Obj) : Steps own base A (A.alloc o) :=
  ⟨rfl, rfl, rfl, by simp, fun k o' hk _ _ => (Below.heap_alloc A o k (Array.getElem?_eq_some_iff.1 hk).1).trans hk⟩
theorem Steps.drew (A : World) : Steps own base A A.drew := ⟨rfl, rfl, rfl, Nat.le_refl _, fun _ _ h _ _ => h⟩
theorem Steps.drewN (A : World) (n : Nat) : Steps own base A (A.drewN n) := ⟨rfl, rfl, rfl, Nat.le_refl _, fun _ _ h _ _ => h⟩
theorem Steps.setCell (A : World) {a : Addr} (v : Value) (h : own a.block) : Steps own base A (A.setCell a v) :=
  ⟨rfl, rfl, rfl, by simp [World.setCell], fun k o hk hn _ => (Below.heap_setCell A a v k (fun e => hn (e ▸ h))).trans hk⟩
theorem Steps.of_below {A B : World} (h : Below A.heap.size A B) : Steps own base A B :=
  ⟨h.os, h.tape, h.output, h.size, fun k _ hk _ _ => (h.block k (Array.getElem?_eq_some_iff.1 hk).1).trans hk⟩
theorem Steps.of_grownBy {A B : World} {r : Nat} (h : A.grownBy B (some r)) (hr : own r) : Steps own base A B :=
  ⟨h.os, h.tape, h.output, h.size, fun k _ hk hn _ => (h.block k (Array.getElem?_eq_some_iff.1 hk).1 (fun e => hn (by cases e; exact hr))).trans hk⟩
theorem Steps.putObj {A : World} {l : Nat} {r : Loop} (o' : Obj) (hl : A.heap[l]? = some (.loop r)) (hb : base ≤ l) : Steps own base A (A.putObj l o') :=
  ⟨rfl, rfl, rfl, by simp, fun k o hk _ hc => by
    by_cases e : k = l
    · subst e
      rw [hl] at hk
      cases hk
      rcases hc with ⟨c, t, m, hc⟩ | hc
      · cases hc
      · omega
    · exact (World.putObj_heap_other e).trans hk⟩

theorem Steps.below {A B : World} {b0 : Nat} {w : World} (h : Steps own base A B) (hA : Below b0 w A) (hb : b0 ≤ base) (hw : b0 ≤ w.heap.size) (hn : ∀ k, k < b0 → ¬ own k) : Below b0 w B :=
  ⟨h.os.trans hA.os, h.tape.trans hA.tape, h.output.trans hA.output, Nat.le_trans hA.size h.size, fun k hk => by
    rw [← hA.block k hk]
    have hlt : k < A.heap.size := by have := hA.size; omega
    rw [Array.getElem?_eq_getElem hlt]
    exact h.same k _ (Array.getElem?_eq_getElem hlt) (hn k hk) (.inr (by omega))⟩
theorem Steps.cells {A B : World} {k : Nat} {c : Array Value} {t : TypeId} {m : Nat × Nat} (h : Steps own base A B) (hk : A.heap[k]? = some (.cells c t m)) (hn : ¬ own k) : B.heap[k]? = some (.cells c t m) :=
  h.same k _ hk hn (.inl ⟨c, t, m, rfl⟩)
theorem Steps.row {A B : World} {b0 : Nat} {e : TypeId} {sz : Nat} {v : Value} {n : Nat} {xs : List Value} (h : Steps own base A B) (hr : A.ownsRow b0 e sz v n xs) (hn : ∀ k, b0 ≤ k → ¬ own k) : B.ownsRow b0 e sz v n xs := by
  obtain ⟨h1, h2⟩ := hr
  refine ⟨h1, ?_⟩
  rcases h2 with h2 | ⟨g, cap, cur, hv, hg, hh, r⟩
  · exact .inl h2
  · exact .inr ⟨g, cap, cur, hv, hg, h.cells hh (hn g hg), r⟩

/-- A call of yield: its run as an equation, and the round's contract, at whatever depth. -/
def Yld (P : Program) (l : Nat) (args : Array Value) (W : World) (R : Ending → World → Prop) : Prop :=
  ∃ fn tmps assign body, (Instr.yield l args).run P W = .ok (.round l fn tmps assign body) W ∧ ∀ m, RoundIn Fence.wide m P l fn tmps assign body W R

theorem roundIn_any {m n l : Nat} {P : Program} {fn : FuncId} {tmps : Array Value} {assign body : Code} {W : World} {R : Ending → World → Prop} (h : RoundIn Fence.wide n P l fn tmps assign body W R) :
    RoundIn Fence.wide m P l fn tmps assign body W R := ⟨h.1, fun c cs _ => h.2 c cs (room_wide _)⟩

/-- WHAT AN ITERATOR PROMISES: whatever invariant J of the caller's that does not mind the iterator's steps, and whatever rounds that keep what the iterator leans on (Kp): it comes to its end with all elements handed out (S), or a round has said 'no more' (Sp). 'Ok pre x': behind 'pre' it hands out x. -/
def Seq {α : Type} (P : Program) (g : Nat) (lb : Array Value) (encs : α → Array Value) (own : Nat → Prop) (Kp : World → World → Prop) (Ok : List α → α → Prop) (S Sp : List α → Prop) (w : World) : Prop :=
  ∀ (l : Nat) (J Jx : List α → World → Prop) (W : World), Below w.heap.size w W →
    (∀ pre A B, J pre A → Steps own W.heap.size A B → J pre B) → (∀ pre A B, Jx pre A → Steps own W.heap.size A B → Jx pre B) →
    (∀ pre x W1, J pre W1 → Ok pre x → Yld P l (encs x) W1 fun e W' =>
      (e = .returned (.bool true) ∧ J (pre ++ [x]) W' ∧ Kp W1 W') ∨ (e = .returned (.bool false) ∧ Jx (pre ++ [x]) W')) →
    J [] W →
    CallsIn Fence.wide 9 P g (#[.func (.yield l) #[] #[]] ++ lb) W fun e W' => (∃ v, e = .returned v) ∧ ((∃ xs, S xs ∧ J xs W') ∨ (∃ pre, Sp pre ∧ Jx pre W'))

/-- What a round has left, by yield's answer. -/
def After {α : Type} (J Jx : List α → World → Prop) (Kp : World → World → Prop) (xs : List α) (W1 : World) : Bool → World → Prop
  | true, W' => J xs W' ∧ Kp W1 W'
  | false, W' => Jx xs W'
theorem Yld.bool {α : Type} {P : Program} {l : Nat} {args : Array Value} {W : World} {J Jx : List α → World → Prop} {Kp : World → World → Prop} {xs : List α} {W1 : World}
    (h : Yld P l args W fun e W' => (e = .returned (.bool true) ∧ J xs W' ∧ Kp W1 W') ∨ (e = .returned (.bool false) ∧ Jx xs W')) :
    Yld P l args W fun e W' => ∃ r : Bool, e = .returned (.bool r) ∧ After J Jx Kp xs W1 r W' := by
  obtain ⟨fn, tmps, assign, body, hy, hR⟩ := h
  refine ⟨fn, tmps, assign, body, hy, fun m => (hR m).mono ?_⟩
  rintro e W' (⟨rfl, h1⟩ | ⟨rfl, h1⟩)
  · exact ⟨true, rfl, h1⟩
  · exact ⟨false, rfl, h1⟩

/-- What a round must keep for the loop itself: whatever is no cells from B on. -/
def KeepsRec (B : Nat) (W W' : World) : Prop := ∀ (k : Nat) (o : Obj), B ≤ k → W.heap[k]? = some o → (∀ c t m, o ≠ .cells c t m) → W'.heap[k]? = some o

theorem KeepsRec.refl (B : Nat) (W : World) : KeepsRec B W W := fun _ _ _ h _ => h
theorem KeepsRec.trans {B : Nat} {X Y Z : World} (h : KeepsRec B X Y) (k : KeepsRec B Y Z) : KeepsRec B X Z := fun i o hb hi hc => k i o hb (h i o hb hi hc) hc
theorem KeepsRec.of_below {B : Nat} {W W' : World} (h : Below W.heap.size W W') : KeepsRec B W W' := fun k _ _ hk _ => (h.block k (Array.getElem?_eq_some_iff.1 hk).1).trans hk
theorem KeepsRec.setCell {B : Nat} {W W' : World} (h : KeepsRec B W W') (a : Addr) (v : Value) : KeepsRec B W (W'.setCell a v) := fun k o hb hk hc => by
  have hk' := h k o hb hk hc
  by_cases e : k = a.block
  · subst e
    obtain ⟨hlt, hk''⟩ := Array.getElem?_eq_some_iff.1 hk'
    show (W'.heap.modify a.block _)[a.block]? = some o
    rw [Array.getElem?_eq_getElem (by rw [Array.size_modify]; exact hlt), Array.getElem_modify_self, hk'']
    cases o <;> first | rfl | exact absurd rfl (hc _ _ _)
  · exact (Below.heap_setCell W' a v k e).trans hk'

/-- How a round's body may be left. -/
def bodyEnd {α : Type} (B : Nat) (Kp : World → World → Prop) (I : List α → World → Prop) (Ix : Code → List α → World → Prop) (xs : List α) (W : World) : Exit → Act → World → Prop
  | .normal, _, W' => KeepsRec B W W' ∧ Kp W W' ∧ I xs W'
  | .ret, _, W' => KeepsRec B W W' ∧ Ix .ret xs W'
  | .exit id, _, W' => KeepsRec B W W' ∧ Ix (.exit id) xs W'
  | .goto t, _, W' => KeepsRec B W W' ∧ Ix (.goto t) xs W'
  | .panic _, _, _ => False
  | .outgrown, _, _ => False

/-- THE LAW FOR THE LOOP. -/
theorem wpIn_rangeSeq {α : Type} {P : Program} {g : Operand} {ps : Array Tmp} {assign body : Code} {Q : Exit → Act → World → Prop} {a : Act} {w : World}
    {gf : Nat} {lb : Array Value} (hg : a.eval g = .func (.func gf) #[] lb) (eg : ∀ args w, (callFunc gf args).run P w = .ok (.enter gf args) w)
    {encs : α → Array Value} {own : Nat → Prop} {Kp : World → World → Prop} {Ok : List α → α → Prop} {S Sp : List α → Prop} (hseq : Seq P gf lb encs own Kp Ok S Sp w)
    (hown : ∀ k, own k → k < w.heap.size) (hKt : ∀ {A B C : World}, Kp A B → Kp B C → Kp A C) (hKb : ∀ (W : World) (l : Nat) (o : Obj), w.heap.size ≤ l → Kp W (W.putObj l o)) (hps : ∀ x, (encs x).size = ps.size)
    (I : List α → World → Prop) (Ix : Code → List α → World → Prop) (hI : ∀ pre A B, I pre A → Steps own w.heap.size A B → I pre B) (hIx : ∀ c pre A B, Ix c pre A → Steps own w.heap.size A B → Ix c pre B)
    (h0 : I [] w) (a₁ : α → Act)
    (hassign : ∀ (l : Nat) (x : α) (W : World) (K : Act → World → Prop), K (a₁ x) W →
      assign.wpIn (Fence.wide.inRound l) 8 P (Exit.then K (fun _ _ _ => False)) { tmps := (ps.zip (encs x)).foldl (fun t (p, v) => t.setIfInBounds p v) a.tmps, defers := [] } W)
    (hbody : ∀ (l : Nat) (pre : List α) (x : α) (W : World), w.heap.size ≤ l → I pre W → Ok pre x → body.wpIn (Fence.wide.inRound l) 8 P (bodyEnd w.heap.size Kp I Ix (pre ++ [x]) W) (a₁ x) W)
    (hdone : ∀ (D : Nat) (xs : List α) (W : World), w.heap.size ≤ D → S xs → I xs W → W.heap[D]? = some (.deferred (some [])) → Q .normal { a with defers := { target := .collected D, args := #[] } :: a.defers } W)
    (hstop : ∀ (D : Nat) (c : Code) (pre : List α) (W : World), w.heap.size ≤ D → Sp pre → Ix c pre W → W.heap[D]? = some (.deferred (some [])) → c.wpIn Fence.wide 10 P Q { a with defers := { target := .collected D, args := #[] } :: a.defers } W) :
    (Code.rangeFunc g ps assign body).wpIn Fence.wide 10 P Q a w := by
  refine wpIn_rangeFunc (fun fn hfn => ?_)
  let rec_ : LoopState → Option Code → Loop := fun st pe => { state := st, pending := pe, fn, tmps := a.tmps, params := ps, assign, body, defers := w.heap.size }
  have hD : ((w.alloc (.deferred (some []))).alloc (.loop (rec_ .ready none))).heap[w.heap.size]? = some (.deferred (some [])) :=
    (Below.heap_alloc _ _ _ (by simp)).trans (World.alloc_heap_new w _)
  have hL : ((w.alloc (.deferred (some []))).alloc (.loop (rec_ .ready none))).heap[w.heap.size + 1]? = some (.loop (rec_ .ready none)) := by
    have := World.alloc_heap_new (w.alloc (.deferred (some []))) (.loop (rec_ .ready none))
    rwa [World.size_alloc] at this
  have hB : Below w.heap.size w ((w.alloc (.deferred (some []))).alloc (.loop (rec_ .ready none))) := ((Below.refl _ w).alloc (Nat.le_refl _) _).alloc (by simp) _
  have hI1 : I [] ((w.alloc (.deferred (some []))).alloc (.loop (rec_ .ready none))) := hI _ _ _ (hI _ _ _ h0 (Steps.alloc _ _)) (Steps.alloc _ _)
  have hz : ((w.alloc (.deferred (some []))).alloc (.loop (rec_ .ready none))).heap.size = w.heap.size + 1 + 1 := by simp
  refine ⟨w.heap.size + 1, [{ target := .collected w.heap.size, args := #[] }], (w.alloc (.deferred (some []))).alloc (.loop (rec_ .ready none)), { target := .fn (.func gf) lb, args := #[.func (.yield (w.heap.size + 1)) #[] #[]] },
    (w.alloc (.deferred (some []))).alloc (.loop (rec_ .ready none)), gf, #[.func (.yield (w.heap.size + 1)) #[] #[]] ++ lb, (w.alloc (.deferred (some []))).alloc (.loop (rec_ .ready none)), run_enterLoop_outer _ _ _ _ _, ?_, fun _ _ => trivial, ?_, fun h => (by cases h), ?_⟩
  · simp only [resolve, hg]; simp [go_sem]
  · simp [invoke, go_sem, eg]
  generalize (w.alloc (.deferred (some []))).alloc (.loop (rec_ .ready none)) = W1 at *
  -- the record and the block of deferred calls, through a step of the iterator's
  have keep : ∀ {A B : World} {k : Nat} {o : Obj}, w.heap.size ≤ k → k < W1.heap.size → A.heap[k]? = some o → Steps own W1.heap.size A B → B.heap[k]? = some o := fun hk hk1 ho hst =>
    hst.same _ _ ho (fun h => by have := hown _ h; omega) (.inr hk1)
  refine (hseq (w.heap.size + 1)
    (fun pre W => I pre W ∧ W.heap[w.heap.size + 1]? = some (.loop (rec_ .ready none)) ∧ W.heap[w.heap.size]? = some (.deferred (some [])))
    (fun pre W => ∃ c, Ix c pre W ∧ W.heap[w.heap.size + 1]? = some (.loop (rec_ .done (some c))) ∧ W.heap[w.heap.size]? = some (.deferred (some [])))
    W1 hB (fun pre A B h hst => ⟨hI _ _ _ h.1 (hst.lower (by omega)), keep (by omega) (by omega) h.2.1 hst, keep (Nat.le_refl _) (by omega) h.2.2 hst⟩)
    (fun pre A B h hst => by
      obtain ⟨c, hc, hl, hd⟩ := h
      exact ⟨c, hIx _ _ _ _ hc (hst.lower (by omega)), keep (by omega) (by omega) hl hst, keep (Nat.le_refl _) (by omega) hd hst⟩)
    ?_ ⟨hI1, hL, hD⟩).mono ?_
  · rintro pre x W ⟨hi, hl, hd⟩ hok
    have hlt : w.heap.size + 1 < W.heap.size := (Array.getElem?_eq_some_iff.1 hl).1
    refine ⟨fn, _, assign, body, run_yield (args := encs x) hl (hps x), fun m => roundIn_any (n := 8) (roundIn_of_wpIn hfn (hassign _ x W _ ⟨_, run_beginRound hl rfl, ?_⟩))⟩
    have hl2 : (W.putObj (w.heap.size + 1) (.loop (rec_ .busy none))).heap[w.heap.size + 1]? = some (.loop (rec_ .busy none)) := World.putObj_heap_same hlt
    have hd2 : (W.putObj (w.heap.size + 1) (.loop (rec_ .busy none))).heap[w.heap.size]? = some (.deferred (some [])) := (World.putObj_heap_other (by omega)).trans hd
    refine wpIn_mono (hbody _ pre x _ (by omega) (hI _ _ _ hi (Steps.putObj _ hl (by omega))) hok) ?_
    have fin : ∀ (jump : Option Code) (W3 : World), KeepsRec w.heap.size (W.putObj (w.heap.size + 1) (.loop (rec_ .busy none))) W3 →
        (Instr.endRound (w.heap.size + 1) jump).run P W3 = .ok (.bool jump.isNone) (W3.putObj (w.heap.size + 1) (.loop (rec_ (if jump.isNone then .ready else .done) jump))) ∧
        W3.heap[w.heap.size + 1]? = some (.loop (rec_ .busy none)) ∧
        (W3.putObj (w.heap.size + 1) (.loop (rec_ (if jump.isNone then .ready else .done) jump))).heap[w.heap.size + 1]? = some (.loop (rec_ (if jump.isNone then .ready else .done) jump)) ∧
        (W3.putObj (w.heap.size + 1) (.loop (rec_ (if jump.isNone then .ready else .done) jump))).heap[w.heap.size]? = some (.deferred (some [])) := fun jump W3 hk => by
      have hl3 := hk _ _ (by omega) hl2 (fun _ _ _ h => by cases h)
      exact ⟨run_endRound jump hl3, hl3, World.putObj_heap_same (Array.getElem?_eq_some_iff.1 hl3).1, (World.putObj_heap_other (by omega)).trans (hk _ _ (Nat.le_refl _) hd2 (fun _ _ _ h => by cases h))⟩
    rintro e a3 W3 hp
    cases e with
    | normal =>
      obtain ⟨h1, h2, h3⟩ := hp
      obtain ⟨r1, r2, r3, r4⟩ := fin none W3 h1
      exact ⟨_, _, r1, .inl ⟨rfl, ⟨hI _ _ _ h3 (Steps.putObj _ r2 (by omega)), r3, r4⟩, hKt (hKt (hKb _ _ _ (by omega)) h2) (hKb _ _ _ (by omega))⟩⟩
    | ret =>
      obtain ⟨h1, h3⟩ := hp
      obtain ⟨r1, r2, r3, r4⟩ := fin (some .ret) W3 h1
      exact ⟨_, _, r1, .inr ⟨rfl, .ret, hIx _ _ _ _ h3 (Steps.putObj _ r2 (by omega)), r3, r4⟩⟩
    | exit id =>
      obtain ⟨h1, h3⟩ := hp
      obtain ⟨r1, r2, r3, r4⟩ := fin (some (.exit id)) W3 h1
      exact ⟨_, _, r1, .inr ⟨rfl, .exit id, hIx _ _ _ _ h3 (Steps.putObj _ r2 (by omega)), r3, r4⟩⟩
    | goto t =>
      obtain ⟨h1, h3⟩ := hp
      obtain ⟨r1, r2, r3, r4⟩ := fin (some (.goto t)) W3 h1
      exact ⟨_, _, r1, .inr ⟨rfl, .goto t, hIx _ _ _ _ h3 (Steps.putObj _ r2 (by omega)), r3, r4⟩⟩
    | panic ch => exact hp.elim
    | outgrown => exact hp.elim
  · rintro e W2 ⟨⟨v, rfl⟩, (⟨xs, hS, hi, hl, hd⟩ | ⟨pre, hSp, c, hi, hl, hd⟩)⟩
    · exact ⟨none, _, run_endLoop hl (by simp [rec_]), hdone _ xs _ (Nat.le_refl _) hS (hI _ _ _ hi (Steps.putObj _ hl (by omega))) ((World.putObj_heap_other (by omega)).trans hd)⟩
    · exact ⟨some c, _, run_endLoop hl (by simp [rec_]), hstop _ c pre _ (Nat.le_refl _) hSp (hIx _ _ _ _ hi (Steps.putObj _ hl (by omega))) ((World.putObj_heap_other (by omega)).trans hd)⟩
end Go.Proofs.YtkfaejnpgdbhlaaGreatDoor
