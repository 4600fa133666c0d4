/-
  num.told by contract: the number of what is wrong, for nil and for the two sentinel errors of package num, in every world in which the two variables hold two different pointers.
-/
import Derived.Test.YtkfaejnpgdbhlaaGreatDoorNumErr
namespace Go.Proofs.YtkfaejnpgdbhlaaGreatDoor
open Go.RowKit

/-- The two error variables of package num hold different pointers to errors of errors.New's make. -/
structure NumErrs (w : World) (a b : Addr) : Prop where
  base : w.cell? ⟨2, 0, none⟩ = some (.iface 252 (.pointer (some a)))
  num : w.cell? ⟨0, 0, none⟩ = some (.iface 252 (.pointer (some b)))
  ne : a ≠ b
  la : ∃ c t, w.heap[a.block]? = some (.cells c t (0, 0))
  lb : ∃ c t, w.heap[b.block]? = some (.cells c t (0, 0))

theorem NumErrs.below {w w' : World} {a b : Addr} (h : NumErrs w a b) (hb : Below w.heap.size w w') : NumErrs w' a b := by
  obtain ⟨h1, h2, h3, ⟨c, t, h4⟩, ⟨d, u, h5⟩⟩ := h
  have k1 := World.block_lt_of_cell? _ _ h1
  have k2 := World.block_lt_of_cell? _ _ h2
  have k4 := (Array.getElem?_eq_some_iff.1 h4).1
  have k5 := (Array.getElem?_eq_some_iff.1 h5).1
  exact ⟨(hb.cell k1).trans h1, (hb.cell k2).trans h2, h3, ⟨c, t, (hb.block _ k4).trans h4⟩, ⟨d, u, (hb.block _ k5).trans h5⟩⟩

theorem told_nil {a b : Addr} (w : World) (h : NumErrs w a b) :
    Calls Tryz.prog 71 #[.nilIface] w fun e w' => e = .returned (.int .i64 0) ∧ w = w' := by
  obtain ⟨h1, h2, h3, ⟨c, t, h4⟩, ⟨d, u, h5⟩⟩ := h
  go_enter Tryz.func71, Tryz.ntmps71
  go_wp2_with (go_at_call 97; refine (is_nil _ _).mono ?_; rintro e w' ⟨rfl, rfl⟩)
  go_ret
  exact ⟨rfl, rfl⟩

theorem told_base {a b : Addr} (w : World) (h : NumErrs w a b) :
    Calls Tryz.prog 71 #[.iface 252 (.pointer (some a))] w fun e w' => e = .returned (.int .i64 2) ∧ w = w' := by
  obtain ⟨h1, h2, h3, ⟨c, t, h4⟩, ⟨d, u, h5⟩⟩ := h
  go_enter Tryz.func71, Tryz.ntmps71
  go_wp2_with (go_at_call 97; refine (is_same _ _).mono ?_; rintro e w' ⟨rfl, rfl⟩)
  go_ret
  exact ⟨rfl, rfl⟩

theorem told_num {a b : Addr} (w : World) (h : NumErrs w a b) :
    Calls Tryz.prog 71 #[.iface 252 (.pointer (some b))] w fun e w' => e = .returned (.int .i64 30) ∧ w = w' := by
  obtain ⟨h1, h2, h3, ⟨c, t, h4⟩, ⟨d, u, h5⟩⟩ := h
  have k1 := is_other b a d c u t w h3.symm h5 h4
  have k2 := is_same b w
  clear h4 h5
  go_enter Tryz.func71, Tryz.ntmps71
  go_wp2_with fail
  refine k1.mono ?_
  rintro e w' ⟨rfl, rfl⟩
  go_wp2_with fail
  refine k2.mono ?_
  rintro e w' ⟨rfl, rfl⟩
  go_wp2_with fail
  go_ret
  exact ⟨rfl, rfl⟩
end Go.Proofs.YtkfaejnpgdbhlaaGreatDoor
