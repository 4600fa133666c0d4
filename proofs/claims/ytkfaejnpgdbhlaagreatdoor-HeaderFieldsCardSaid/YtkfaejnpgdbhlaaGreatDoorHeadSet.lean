/-
  header's set by contract: texts put into a block's bytes, one field each.
-/
import Derived.Test.YtkfaejnpgdbhlaaGreatDoorHeadSum
import Derived.Lib.BufferWrite
import Derived.Lib.SlBuf
import Derived.Deep.RegionHeld3
namespace Go.Proofs.YtkfaejnpgdbhlaaGreatDoor
open Go.RowKit

/-- Texts as cells. -/
def strRow (ss : List (List UInt8)) : Obj := .cells (ss.map fun s => Value.string ⟨s.toArray⟩).toArray 9 (0, 0)

theorem step_copy_run {P : Program} {ops : Array Oper} {o : Oper} {a : Act} {w : World} {K : Act → World → Prop} {Q : Exit → Act → World → Prop} {E : Prop} (hg : o.guard = none) (d s : Operand) (t t' : TypeId)
    (ho : o.op = .call { callee := .builtin .copy, args := #[d, s], argTypes := #[t, t'] }) (v u : Value) (hd : a.eval d = v) (hs : a.eval s = u) {v' : Value} {w' : World}
    (hr : (Builtin.copy_ #[t, t'] o.type #[v, u]).run P w = .ok v' w') (h : K (a.put o.dst v') w') : if Region.wanted o (yielded ops a.tmps) = true then Oper.wp P o a w K Q else E := by
  rw [if_pos (by simp [Region.wanted, hg])]
  exact Lib.wp_copy_run w d s t t' ho v u hd hs hr h

theorem byteInfo : (Tryz.prog.info? 5).map (·.size) = some 1 := by kernel_rfl

theorem copy_at {W : World} {g off dLen cap : Nat} {ty : TypeId} {l s : List UInt8} (h : W.heap[g]? = some (byteRow l)) (hs : s.length ≤ dLen) (hf : off + s.length ≤ l.length) :
    (Builtin.copy_ #[35, 9] ty #[.slice (some ⟨g, off, none⟩) dLen cap, .string ⟨s.toArray⟩]).run Tryz.prog W = .ok (goInt s.length) (W.setRow g (Lib.byteCells (setAt l off s)).toArray) := by
  have hz : (⟨s.toArray⟩ : ByteArray).size = s.length := rfl
  have := Lib.run_copy_row_string (P := Tryz.prog) W 35 9 ty 5 g off dLen cap ⟨s.toArray⟩ (Lib.byteCells l).toArray 5 Tryz.underlying35 byteInfo h (by rw [hz]; exact hs) (by rw [hz]; simpa [Lib.byteCells] using hf)
  rw [this, hz]
  have e : ((Lib.byteCells l).toArray.toList.take off ++ Lib.byteCells s ++ (Lib.byteCells l).toArray.toList.drop (off + s.length)) = Lib.byteCells (setAt l off s) := by
    simp only [setAt, Lib.byteCells, List.map_append, List.map_take, List.map_drop]
  rw [← e]
theorem setRow_row {W : World} {g : Nat} {l m : List UInt8} (h : W.heap[g]? = some (byteRow l)) : (W.setRow g (Lib.byteCells m).toArray).heap[g]? = some (byteRow m) :=
  setRow_heap W g _ _ 5 _ h
theorem setRow_cell {W : World} {g k : Nat} {cs : Array Value} {i : Nat} (h : k ≠ g) : (W.setRow g cs).cell? ⟨k, i, none⟩ = W.cell? ⟨k, i, none⟩ :=
  World.cell?_of_block (by simp only [World.setRow, Array.getElem?_modify]; rw [if_neg (fun e => h e.symm)])
theorem setRow_grown {W : World} {g : Nat} {cs : Array Value} : W.grownBy (W.setRow g cs) (some g) :=
  ⟨rfl, rfl, rfl, by simp, fun k _ hn => by
    have hk : k ≠ g := fun e => hn (by rw [e])
    simp only [World.setRow, Array.getElem?_modify]
    rw [if_neg (fun e => hk e.symm)]⟩

theorem fits_at : ∀ (ws : List Nat) (ss : List (List UInt8)), Fits ws ss → ss.length ≤ ws.length ∧ ∀ k (h : k < ss.length), ss[k].length ≤ ws.getD k 0 := by
  intro ws
  induction ws with
  | nil => intro ss h; cases ss with
    | nil => exact ⟨Nat.le_refl _, fun k h => by cases h⟩
    | cons s ss => exact h.elim
  | cons w ws ih => intro ss h; cases ss with
    | nil => exact ⟨by simp, fun k h => by cases h⟩
    | cons s ss =>
      obtain ⟨h1, h2⟩ := h
      obtain ⟨h3, h4⟩ := ih ss h2
      refine ⟨by simp; omega, fun k hk => ?_⟩
      cases k with
      | zero => exact h1
      | succ k => simpa using h4 k (by simpa using hk)
theorem setRun_step (k : Nat) (ss : List (List UInt8)) (b : List UInt8) (hk : k < ss.length) (h16 : k < 16) : setRun (offOf k) (wids.drop k) (ss.drop k) b = setRun (offOf (k + 1)) (wids.drop (k + 1)) (ss.drop (k + 1)) (setAt b (offOf k) ss[k]) := by
  have h1 : wids.drop k = wids.getD k 0 :: wids.drop (k + 1) := by
    rw [List.drop_eq_getElem_cons (by simp [wids]; omega)]
    simp [List.getD_eq_getElem?_getD, List.getElem?_eq_getElem (show k < wids.length by simp [wids]; omega)]
  rw [h1, List.drop_eq_getElem_cons hk, setRun, off_next h16]

set_option maxRecDepth 100000 in
set_option maxHeartbeats 1000000 in
theorem set_any (xb tb g hb cap : Nat) (ss : List (List UInt8)) (b : List UInt8) (hbl : b.length = 512) (hfit : Fits wids ss) (h1 : xb ≠ g) (h2 : tb ≠ g) (h3 : hb ≠ g) (w : World) (h : BlockAt w xb g b)
    (ht : w.heap[tb]? = some (TabCells 1 0 16)) (hs : w.heap[hb]? = some (strRow ss)) :
    Calls Tryz.prog 34 #[.pointer (some ⟨xb, 0, none⟩), .pointer (some ⟨tb, 0, none⟩), .slice (some ⟨hb, 0, none⟩) ss.length cap] w fun e w' => e = .returned (.tuple #[]) ∧ w'.heap[g]? = some (byteRow (setRun 0 wids ss b)) ∧ w.grownBy w' (some g) := by
  obtain ⟨hn, hfa⟩ := fits_at wids ss hfit
  have hn16 : ss.length ≤ 16 := hn
  clear hn
  obtain ⟨B, hB⟩ : ∃ B, setRun 0 wids ss b = B := ⟨_, rfl⟩
  rw [hB]
  go_enter Tryz.func34, Tryz.ntmps34
  go_wp2
  go_loopw [10] (fun i wr => ∃ (k : Nat) (bk : List UInt8), k ≤ ss.length ∧ i = .int .i64 k ∧ bk.length = 512 ∧ setRun (offOf k) (wids.drop k) (ss.drop k) bk = B ∧ wr.heap[g]? = some (byteRow bk) ∧ w.grownBy wr (some g))
    (fun i _ => 16 - (intOf i).toNat)
  case atStart => exact ⟨0, b, by omega, rfl, hbl, hB, h.row, World.grownBy.refl _ _⟩
  case round =>
    obtain ⟨k, bk, hk, rfl, hbk, hrun, hg, hG⟩ := hrel
    by_cases hlt : k < ss.length
    · have k16 : k < 16 := by omega
      have hs' := (hG.block _ (lt_block hs) (by simpa using h3)).trans hs
      have ht' := (hG.block _ (lt_block ht) (by simpa using h2)).trans ht
      have cx := hG.cell h.x (by simpa using h1)
      have cs : wr.cell? ⟨hb, k, none⟩ = some (.string ⟨ss[k].toArray⟩) := by simp [World.cell?, hs', strRow, hlt]
      have ct : wr.cell? ⟨tb, 3 + k * 2, none⟩ = some (.int .i64 (offOf k : Nat)) := by
        have := (tab_new 1 0 k16).1
        simp only [World.cell?, ht', TabCells, this]; rfl
      have ct2 : wr.cell? ⟨tb, 3 + k * 2 + 1, none⟩ = some (.int .i64 (wids.getD k 0 : Nat)) := by
        have := (tab_new 1 0 k16).2
        simp only [World.cell?, ht', TabCells, this]; rfl
      have hof := off_small k16
      have hfk := hfa k hlt
      have hnx := Lib.hid (setRun_step k ss bk hlt k16)
      have hpos : 0 < wids.getD k 0 := lt16 (P := fun k => 0 < wids.getD k 0) k16 (by decide)
      generalize wids.getD k 0 = n at *
      generalize offOf k = f at *
      generalize ss[k] = s at *
      have b1 : (f : Int) ≤ 512 := by omega
      have b2 : (0 : Int) ≤ f := by omega
      have b3 : (n : Int) ≤ 512 - f := by omega
      have b4 : (0 : Int) ≤ n := by omega
      have b5 : ¬ 512 = f := by omega
      have b6 : n ≤ 512 - f := by omega
      have b7 : (k : Int) < 16 := by omega
      have b8 : (0 : Int) ≤ k := by omega
      go_wp2
      go_region_held3 (fun w' => w'.cell? ⟨xb, 0, none⟩ = some (.slice (some ⟨g, 0, none⟩) 512 512) ∧ w'.cell? ⟨tb, 3 + k * 2, none⟩ = some (.int .i64 f) ∧ w'.cell? ⟨tb, 3 + k * 2 + 1, none⟩ = some (.int .i64 n))
        (first | exact ⟨cx, ct, ct2⟩ | exact ⟨(setRow_cell h1).trans cx, (setRow_cell h2).trans ct, (setRow_cell h2).trans ct2⟩)
        (first | (refine step_copy_run rfl (.tmp 34) (.tmp 35) 35 9 rfl _ _ rfl rfl (copy_at (l := bk) (s := s) hg hfk (by omega)) ?_))
      have hg2 := setRow_row (W := wr.drew) (m := setAt bk f s) hg
      have hG2 : w.grownBy (wr.drew.setRow g (Lib.byteCells (setAt bk f s)).toArray) (some g) := (grown_drew hG).trans setRow_grown
      have hl2 : (setAt bk f s).length = 512 := by rw [setAt_length (by omega)]; exact hbk
      generalize wr.drew.setRow g (Lib.byteCells (setAt bk f s)).toArray = W2 at *
      clear cx ct ct2 cs hg
      go_wp2
      exact ⟨⟨k + 1, setAt bk f s, by omega, by go_num, hl2, by rw [← hnx.out]; exact hrun, hg2, hG2⟩, by simp [intOf]; omega⟩
    · obtain rfl : k = ss.length := by omega
      have hfin : bk = B := by rw [← hrun, List.drop_length]; cases wids.drop ss.length <;> rfl
      go_wp2
      go_end0
      exact ⟨rfl, hfin ▸ hg, hG⟩
end Go.Proofs.YtkfaejnpgdbhlaaGreatDoor
