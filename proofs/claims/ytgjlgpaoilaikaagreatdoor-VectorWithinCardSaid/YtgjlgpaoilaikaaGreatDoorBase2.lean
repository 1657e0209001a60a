/-
  More common words: gates for the walk's arms.
-/
import Derived.Test.YtgjlgpaoilaikaaGreatDoorBase
import Derived.Deep.DeepCutAuto
namespace Go.Proofs.YtgjlgpaoilaikaaGreatDoor
open Go.RowKit

/-- passes at the append of just these operands -/
theorem gate_app {P : Program} {ops : Array Oper} {rest : List Oper} {a : Act} {Q : Exit → Act → World → Prop} {w : World} {d : Option Tmp} {t : TypeId} {pos : String} {af : Array Edge} {g : Option (Nat × Bool)} {ts : Array TypeId} (s x : Operand)
    (h : wpList P ops Q (⟨d, .call ⟨.builtin .append, #[s, x], ts⟩, t, pos, af, g⟩ :: rest) a w) : wpList P ops Q (⟨d, .call ⟨.builtin .append, #[s, x], ts⟩, t, pos, af, g⟩ :: rest) a w := h
end Go.Proofs.YtgjlgpaoilaikaaGreatDoor
