/-
  Common words: regions that draw their order, that read, and whose callees lay blocks of their own.
-/
import Derived.Test.YtgjlgpaoilaikaaGreatDoorBase2
namespace Go.Proofs.YtgjlgpaoilaikaaGreatDoor
open Go.RowKit

/-- a world in which all that was there is as it was -/
structure Bw (w : World) where
  W : World
  h : Below w.heap.size w W
instance (w : World) : Inhabited (Bw w) := ⟨⟨w, Below.refl _ _⟩⟩
theorem wp_region_bw {P : Program} {id : Nat} {Q : Exit → Act → World → Prop} {a : Act} {w : World} {l : List Oper} (hm : P.follows .mixedOrders = true) (hB : Region.lexB .any l.toArray = true)
    (h : wpQuiet P l.toArray (fun w' => ∃ p : Bw w, w' = p.W) (fun a' => ∀ w', (∃ p : Bw w, w' = p.W) → Q .normal a' w') l a) : (Code.region id l.toArray true).wp P Q a w :=
  wp_region_quiet (C := fun w' => ∃ p : Bw w, w' = p.W) hm hB ⟨⟨w.drew, ⟨rfl, rfl, rfl, Nat.le_refl _, fun _ _ => rfl⟩⟩, rfl⟩ (by simpa using h)
theorem bw_cell {w : World} {a : Addr} {v : Value} (h : w.cell? a = some v) (p : Bw w) : p.W.cell? a = some v := keep_cell p.h h
theorem bw_then {w : World} (p : Bw w) {W : World} (h : Below p.W.heap.size p.W W) : ∃ q : Bw w, W = q.W := ⟨⟨W, below_then' p.h p.h.size h⟩, rfl⟩
theorem Calls.bw {P : Program} {f : FuncId} {args : Array Value} {w : World} {p : Bw w} {v : Value} (h : Calls P f args p.W fun e w' => e = .returned v ∧ Below p.W.heap.size p.W w') : Calls P f args p.W fun e w'' => e = .returned v ∧ ∃ q : Bw w, w'' = q.W :=
  h.mono fun _ _ ⟨he, hb⟩ => ⟨he, bw_then p hb⟩
theorem Calls.bw_same {P : Program} {f : FuncId} {args : Array Value} {w : World} {p : Bw w} {v : Value} (h : Calls P f args p.W fun e w' => e = .returned v ∧ p.W = w') : Calls P f args p.W fun e w'' => e = .returned v ∧ ∃ q : Bw w, w'' = q.W :=
  h.mono fun _ _ ⟨he, hb⟩ => ⟨he, p, hb.symm⟩
theorem Calls.bw_drew {P : Program} {f : FuncId} {args : Array Value} {w : World} {p : Bw w} {v : Value} (h : Calls P f args p.W fun e w' => e = .returned v ∧ ∃ n, w' = p.W.drewN n) : Calls P f args p.W fun e w'' => e = .returned v ∧ ∃ q : Bw w, w'' = q.W :=
  h.mono fun _ _ ⟨he, n, hb⟩ => ⟨he, bw_then p (by rw [hb]; exact below_drewN' (Below.refl _ _) n)⟩
end Go.Proofs.YtgjlgpaoilaikaaGreatDoor
