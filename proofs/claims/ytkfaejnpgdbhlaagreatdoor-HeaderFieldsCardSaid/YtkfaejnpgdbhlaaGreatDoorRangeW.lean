/-
  The range over a function whose iterator keeps state in cells that the caller reads behind the loop: as Range's law, but the iterator's end may speak of the world.
-/
import Derived.Test.YtkfaejnpgdbhlaaGreatDoorRange
namespace Go.Proofs.YtkfaejnpgdbhlaaGreatDoor
open Go.RowKit

variable {base : Nat}

/-- WHAT AN ITERATOR PROMISES ('own b': its own blocks, b being the first block that is not there at its call): whatever invariant J of the caller's that does not mind the iterator's steps, and whatever rounds that keep what the iterator leans on (Kp): it comes to its end with all elements handed out (S, which may speak of what the iterator has left in its own cells), or a round has said 'no more' (Sp). 'Ok pre x': behind 'pre' it hands out x. -/
def SeqW {α : Type} (P : Program) (g : Nat) (lb : Array Value) (encs : α → Array Value) (own : Nat → Nat → Prop) (Kp : Nat → World → World → Prop) (Ok : List α → α → Prop) (S : List α → World → Prop) (Sp : List α → Prop) (w : World) : Prop :=
  ∀ (l : Nat) (J Jx : List α → World → Prop) (W : World), Below w.heap.size w W →
    (∀ pre A B, J pre A → Steps (own W.heap.size) W.heap.size A B → J pre B) → (∀ pre A B, Jx pre A → Steps (own W.heap.size) W.heap.size A B → Jx pre B) →
    (∀ pre x W1, J pre W1 → Ok pre x → (∀ k, own W.heap.size k → k < W1.heap.size) → Yld P l (encs x) W1 fun e W' =>
      (e = .returned (.bool true) ∧ J (pre ++ [x]) W' ∧ Kp W.heap.size W1 W') ∨ (e = .returned (.bool false) ∧ Jx (pre ++ [x]) W' ∧ Kp W.heap.size W1 W')) →
    J [] W →
    CallsIn Fence.wide 9 P g (#[.func (.yield l) #[] #[]] ++ lb) W fun e W' => (∃ v, e = .returned v) ∧ ((∃ xs, S xs W' ∧ J xs W') ∨ (∃ pre, Sp pre ∧ Jx pre W'))

/-- What a round has left, by yield's answer. -/
def AfterW {α : Type} (J Jx : List α → World → Prop) (Kp : World → World → Prop) (xs : List α) (W1 : World) : Bool → World → Prop
  | true, W' => J xs W' ∧ Kp W1 W'
  | false, W' => Jx xs W' ∧ Kp W1 W'
theorem Yld.boolW {α : Type} {P : Program} {l : Nat} {args : Array Value} {W : World} {J Jx : List α → World → Prop} {Kp : World → World → Prop} {xs : List α} {W1 : World}
    (h : Yld P l args W fun e W' => (e = .returned (.bool true) ∧ J xs W' ∧ Kp W1 W') ∨ (e = .returned (.bool false) ∧ Jx xs W' ∧ Kp W1 W')) :
    Yld P l args W fun e W' => ∃ r : Bool, e = .returned (.bool r) ∧ AfterW J Jx Kp xs W1 r W' := by
  obtain ⟨fn, tmps, assign, body, hy, hR⟩ := h
  refine ⟨fn, tmps, assign, body, hy, fun m => (hR m).mono ?_⟩
  rintro e W' (⟨rfl, h1⟩ | ⟨rfl, h1⟩)
  · exact ⟨true, rfl, h1⟩
  · exact ⟨false, rfl, h1⟩

/-- How a round's body may be left: every way, it keeps what the iterator leans on. -/
def bodyEndW {α : Type} (B : Nat) (Kp : World → World → Prop) (I : List α → World → Prop) (Ix : Code → List α → World → Prop) (xs : List α) (W : World) : Exit → Act → World → Prop
  | .normal, _, W' => KeepsRec B W W' ∧ Kp W W' ∧ I xs W'
  | .ret, _, W' => KeepsRec B W W' ∧ Kp W W' ∧ Ix .ret xs W'
  | .exit id, _, W' => KeepsRec B W W' ∧ Kp W W' ∧ Ix (.exit id) xs W'
  | .goto t, _, W' => KeepsRec B W W' ∧ Kp W W' ∧ Ix (.goto t) xs W'
  | .panic _, _, _ => False
  | .outgrown, _, _ => False

/-- What turns its own blocks alone turns more blocks' owner's alone. -/
theorem Steps.widen {own own' : Nat → Prop} {b b' : Nat} {A B : World} (h : Steps own b A B) (ho : ∀ k, own k → own' k) (hb : b' ≤ b) : Steps own' b' A B :=
  ⟨h.os, h.tape, h.output, h.size, fun k o hk hn hc => h.same k o hk (fun x => hn (ho k x)) (hc.imp id (fun x => Nat.lt_of_lt_of_le x hb))⟩

/-- THE LAW FOR THE LOOP. -/
theorem wpIn_rangeSeqW {α : Type} {P : Program} {g : Operand} {ps : Array Tmp} {assign body : Code} {Q : Exit → Act → World → Prop} {a : Act} {w : World}
    {gf : Nat} {lb : Array Value} (hg : a.eval g = .func (.func gf) #[] lb) (eg : ∀ args w, (callFunc gf args).run P w = .ok (.enter gf args) w)
    {encs : α → Array Value} {own : Nat → Nat → Prop} {Kp : Nat → World → World → Prop} {Ok : List α → α → Prop} {S : List α → World → Prop} {Sp : List α → Prop} (hseq : SeqW P gf lb encs own Kp Ok S Sp w)
    (hown : ∀ k, own (w.heap.size + 1 + 1) k → k ≠ w.heap.size ∧ k ≠ w.heap.size + 1) (hKt : ∀ {A B C : World}, Kp (w.heap.size + 1 + 1) A B → Kp (w.heap.size + 1 + 1) B C → Kp (w.heap.size + 1 + 1) A C) (hKb : ∀ (W : World) (o : Obj), Kp (w.heap.size + 1 + 1) W (W.putObj (w.heap.size + 1) o)) (hS : ∀ xs (W : World) (l : Nat) (o : Obj), w.heap.size ≤ l → S xs W → S xs (W.putObj l o)) (hps : ∀ x, (encs x).size = ps.size)
    (I : List α → World → Prop) (Ix : Code → List α → World → Prop) (hI : ∀ pre A B, I pre A → Steps (own (w.heap.size + 1 + 1)) w.heap.size A B → I pre B) (hIx : ∀ c pre A B, Ix c pre A → Steps (own (w.heap.size + 1 + 1)) w.heap.size A B → Ix c pre B)
    (h0 : I [] w) (a₁ : α → Act)
    (hassign : ∀ (l : Nat) (x : α) (W : World) (K : Act → World → Prop), K (a₁ x) W →
      assign.wpIn (Fence.wide.inRound l) 8 P (Exit.then K (fun _ _ _ => False)) { tmps := (ps.zip (encs x)).foldl (fun t (p, v) => t.setIfInBounds p v) a.tmps, defers := [] } W)
    (hbody : ∀ (l : Nat) (pre : List α) (x : α) (W : World), w.heap.size ≤ l → I pre W → Ok pre x → (∀ k, own (w.heap.size + 1 + 1) k → k < W.heap.size) → body.wpIn (Fence.wide.inRound l) 8 P (bodyEndW w.heap.size (Kp (w.heap.size + 1 + 1)) I Ix (pre ++ [x]) W) (a₁ x) W)
    (hdone : ∀ (D : Nat) (xs : List α) (W : World), w.heap.size ≤ D → S xs W → I xs W → W.heap[D]? = some (.deferred (some [])) → Q .normal { a with defers := { target := .collected D, args := #[] } :: a.defers } W)
    (hstop : ∀ (D : Nat) (c : Code) (pre : List α) (W : World), w.heap.size ≤ D → Sp pre → Ix c pre W → W.heap[D]? = some (.deferred (some [])) → c.wpIn Fence.wide 10 P Q { a with defers := { target := .collected D, args := #[] } :: a.defers } W) :
    (Code.rangeFunc g ps assign body).wpIn Fence.wide 10 P Q a w := by
  refine wpIn_rangeFunc (fun fn hfn => ?_)
  let rec_ : LoopState → Option Code → Loop := fun st pe => { state := st, pending := pe, fn, tmps := a.tmps, params := ps, assign, body, defers := w.heap.size }
  have hD : ((w.alloc (.deferred (some []))).alloc (.loop (rec_ .ready none))).heap[w.heap.size]? = some (.deferred (some [])) :=
    (Below.heap_alloc _ _ _ (by simp)).trans (World.alloc_heap_new w _)
  have hL : ((w.alloc (.deferred (some []))).alloc (.loop (rec_ .ready none))).heap[w.heap.size + 1]? = some (.loop (rec_ .ready none)) := by
    have := World.alloc_heap_new (w.alloc (.deferred (some []))) (.loop (rec_ .ready none))
    rwa [World.size_alloc] at this
  have hB : Below w.heap.size w ((w.alloc (.deferred (some []))).alloc (.loop (rec_ .ready none))) := ((Below.refl _ w).alloc (Nat.le_refl _) _).alloc (by simp) _
  have hI1 : I [] ((w.alloc (.deferred (some []))).alloc (.loop (rec_ .ready none))) := hI _ _ _ (hI _ _ _ h0 (Steps.alloc _ _)) (Steps.alloc _ _)
  have hz : ((w.alloc (.deferred (some []))).alloc (.loop (rec_ .ready none))).heap.size = w.heap.size + 1 + 1 := by simp
  refine ⟨w.heap.size + 1, [{ target := .collected w.heap.size, args := #[] }], (w.alloc (.deferred (some []))).alloc (.loop (rec_ .ready none)), { target := .fn (.func gf) lb, args := #[.func (.yield (w.heap.size + 1)) #[] #[]] },
    (w.alloc (.deferred (some []))).alloc (.loop (rec_ .ready none)), gf, #[.func (.yield (w.heap.size + 1)) #[] #[]] ++ lb, (w.alloc (.deferred (some []))).alloc (.loop (rec_ .ready none)), run_enterLoop_outer _ _ _ _ _, ?_, fun _ _ => trivial, ?_, fun h => (by cases h), ?_⟩
  · simp only [resolve, hg]; simp [go_sem]
  · simp [invoke, go_sem, eg]
  generalize (w.alloc (.deferred (some []))).alloc (.loop (rec_ .ready none)) = W1 at *
  have cv : ∀ {A B : World} {b : Nat}, Steps (own W1.heap.size) b A B → Steps (own (w.heap.size + 1 + 1)) b A B := fun h => hz ▸ h
  -- the record and the block of deferred calls, through a step of the iterator's
  have keep : ∀ {A B : World} {k : Nat} {o : Obj}, w.heap.size ≤ k → k < W1.heap.size → A.heap[k]? = some o → Steps (own W1.heap.size) W1.heap.size A B → B.heap[k]? = some o := fun hk hk1 ho hst =>
    hst.same _ _ ho (fun h => by have := hown _ (hz ▸ h); omega) (.inr hk1)
  refine (hseq (w.heap.size + 1)
    (fun pre W => I pre W ∧ W.heap[w.heap.size + 1]? = some (.loop (rec_ .ready none)) ∧ W.heap[w.heap.size]? = some (.deferred (some [])))
    (fun pre W => ∃ c, Ix c pre W ∧ W.heap[w.heap.size + 1]? = some (.loop (rec_ .done (some c))) ∧ W.heap[w.heap.size]? = some (.deferred (some [])))
    W1 hB (fun pre A B h hst => ⟨hI _ _ _ h.1 ((cv hst).lower (by omega)), keep (by omega) (by omega) h.2.1 hst, keep (Nat.le_refl _) (by omega) h.2.2 hst⟩)
    (fun pre A B h hst => by
      obtain ⟨c, hc, hl, hd⟩ := h
      exact ⟨c, hIx _ _ _ _ hc ((cv hst).lower (by omega)), keep (by omega) (by omega) hl hst, keep (Nat.le_refl _) (by omega) hd hst⟩)
    ?_ ⟨hI1, hL, hD⟩).mono ?_
  · rintro pre x W ⟨hi, hl, hd⟩ hok hex
    have hlt : w.heap.size + 1 < W.heap.size := (Array.getElem?_eq_some_iff.1 hl).1
    refine ⟨fn, _, assign, body, run_yield (args := encs x) hl (hps x), fun m => roundIn_any (n := 8) (roundIn_of_wpIn hfn (hassign _ x W _ ⟨_, run_beginRound hl rfl, ?_⟩))⟩
    have hl2 : (W.putObj (w.heap.size + 1) (.loop (rec_ .busy none))).heap[w.heap.size + 1]? = some (.loop (rec_ .busy none)) := World.putObj_heap_same hlt
    have hd2 : (W.putObj (w.heap.size + 1) (.loop (rec_ .busy none))).heap[w.heap.size]? = some (.deferred (some [])) := (World.putObj_heap_other (by omega)).trans hd
    refine wpIn_mono (hbody _ pre x _ (by omega) (hI _ _ _ hi (Steps.putObj _ hl (by omega))) hok (fun k hk => by rw [World.putObj_size]; exact hex k (by rw [hz]; exact hk))) ?_
    have fin : ∀ (jump : Option Code) (W3 : World), KeepsRec w.heap.size (W.putObj (w.heap.size + 1) (.loop (rec_ .busy none))) W3 →
        (Instr.endRound (w.heap.size + 1) jump).run P W3 = .ok (.bool jump.isNone) (W3.putObj (w.heap.size + 1) (.loop (rec_ (if jump.isNone then .ready else .done) jump))) ∧
        W3.heap[w.heap.size + 1]? = some (.loop (rec_ .busy none)) ∧
        (W3.putObj (w.heap.size + 1) (.loop (rec_ (if jump.isNone then .ready else .done) jump))).heap[w.heap.size + 1]? = some (.loop (rec_ (if jump.isNone then .ready else .done) jump)) ∧
        (W3.putObj (w.heap.size + 1) (.loop (rec_ (if jump.isNone then .ready else .done) jump))).heap[w.heap.size]? = some (.deferred (some [])) := fun jump W3 hk => by
      have hl3 := hk _ _ (by omega) hl2 (fun _ _ _ h => by cases h)
      exact ⟨run_endRound jump hl3, hl3, World.putObj_heap_same (Array.getElem?_eq_some_iff.1 hl3).1, (World.putObj_heap_other (by omega)).trans (hk _ _ (Nat.le_refl _) hd2 (fun _ _ _ h => by cases h))⟩
    have kp : ∀ {W3 : World}, Kp (w.heap.size + 1 + 1) (W.putObj (w.heap.size + 1) (.loop (rec_ .busy none))) W3 → ∀ o, Kp W1.heap.size W (W3.putObj (w.heap.size + 1) o) := fun h o => by
      rw [hz]; exact hKt (hKt (hKb _ _) h) (hKb _ _)
    rintro e a3 W3 hp
    cases e with
    | normal =>
      obtain ⟨h1, h2, h3⟩ := hp
      obtain ⟨r1, r2, r3, r4⟩ := fin none W3 h1
      exact ⟨_, _, r1, .inl ⟨rfl, ⟨hI _ _ _ h3 (Steps.putObj _ r2 (by omega)), r3, r4⟩, kp h2 _⟩⟩
    | ret =>
      obtain ⟨h1, h2, h3⟩ := hp
      obtain ⟨r1, r2, r3, r4⟩ := fin (some .ret) W3 h1
      exact ⟨_, _, r1, .inr ⟨rfl, ⟨.ret, hIx _ _ _ _ h3 (Steps.putObj _ r2 (by omega)), r3, r4⟩, kp h2 _⟩⟩
    | exit id =>
      obtain ⟨h1, h2, h3⟩ := hp
      obtain ⟨r1, r2, r3, r4⟩ := fin (some (.exit id)) W3 h1
      exact ⟨_, _, r1, .inr ⟨rfl, ⟨.exit id, hIx _ _ _ _ h3 (Steps.putObj _ r2 (by omega)), r3, r4⟩, kp h2 _⟩⟩
    | goto t =>
      obtain ⟨h1, h2, h3⟩ := hp
      obtain ⟨r1, r2, r3, r4⟩ := fin (some (.goto t)) W3 h1
      exact ⟨_, _, r1, .inr ⟨rfl, ⟨.goto t, hIx _ _ _ _ h3 (Steps.putObj _ r2 (by omega)), r3, r4⟩, kp h2 _⟩⟩
    | panic ch => exact hp.elim
    | outgrown => exact hp.elim
  · rintro e W2 ⟨⟨v, rfl⟩, (⟨xs, hS0, hi, hl, hd⟩ | ⟨pre, hSp, c, hi, hl, hd⟩)⟩
    · exact ⟨none, _, run_endLoop hl (by simp [rec_]), hdone _ xs _ (Nat.le_refl _) (hS _ _ _ _ (by omega) hS0) (hI _ _ _ hi (Steps.putObj _ hl (by omega))) ((World.putObj_heap_other (by omega)).trans hd)⟩
    · exact ⟨some c, _, run_endLoop hl (by simp [rec_]), hstop _ c pre _ (Nat.le_refl _) hSp (hIx _ _ _ _ hi (Steps.putObj _ hl (by omega))) ((World.putObj_heap_other (by omega)).trans hd)⟩
end Go.Proofs.YtkfaejnpgdbhlaaGreatDoor
