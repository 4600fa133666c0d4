/-
  A call, and a round, inside a round's fence: as outside.
-/
import Derived.Test.YtkfaejnpgdbhlaaGreatDoorRange
namespace Go.Proofs.YtkfaejnpgdbhlaaGreatDoor
open Go.RowKit

theorem roundIn_nest {F : Fence} {l0 n l : Nat} {P : Program} {fn : FuncId} {tmps : Array Value} {assign body : Code} {W : World} {R : Ending → World → Prop} (h : RoundIn F n P l fn tmps assign body W R) :
    RoundIn (F.inRound l0) n P l fn tmps assign body W R := h
theorem callsIn_nest {F : Fence} {l0 n : Nat} {P : Program} {f : FuncId} {vs : Array Value} {W : World} {R : Ending → World → Prop} (h : CallsIn F n P f vs W R) :
    CallsIn (F.inRound l0) n P f vs W R := h
end Go.Proofs.YtkfaejnpgdbhlaaGreatDoor
