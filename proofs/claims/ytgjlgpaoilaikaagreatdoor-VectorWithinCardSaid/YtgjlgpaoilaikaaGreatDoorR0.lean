/-
  Common words of the rows: a wrap that keeps the listed variables and the world's shape; arguments that are slices, opened; what the listed variables hold.
-/
import Derived.Test.YtgjlgpaoilaikaaGreatDoorRows
import Derived.Test.YtgjlgpaoilaikaaGreatDoorQ1
import Derived.HandedShaped
import Derived.Handed
import Derived.Shelf.Vars
import Derived.ProofKit
import Derived.OpenShut
import Derived.ShutString
import Derived.LaidMore
import Derived.Lay
import Derived.SevenTiedAt
import Derived.Stop.Joined
import Derived.Stop.LaidErr
import Derived.Carry
import Derived.SizedLaws
import Derived.Deep.Slices
import Derived.Deep.Fields
namespace Go.Proofs.YtgjlgpaoilaikaaGreatDoor
open Go.ChangeShapes Go.WideShapes Go.ChangeAt Go.RowKit

section
variable {H : Type} {enc : TypeId × Value → H}
theorem returns_laid {a : Assume} {C : Checked} {os : Os} {f : FuncId} {fn : Func} {s : ChangeSpec} {conds : List PathCond} {apart fresh handsOn again : Bool} {X : World → Array Value → Prop}
    (hX : ∀ (w w' : World) (args : Array Value), w.heap = w'.heap → X w args → X w' args)
    (own : ownKnob C.prog.godebug = none) (started : os.Started) (noInit : C.prog.inits.idxOf? f = none) (hfn : C.prog.funcs[f]? = some fn)
    (witness : ∃ (w : World) (tape : Tape) (i : Input), w.os = os ∧ (w.forCall tape i).Shaped C.prog ∧ i.vars = [] ∧ Input.okWide C.prog (w.forCall tape i) .any w.heap.size f i ∧
      ((s.pre enc C.prog fn conds apart (w.forCall tape i).memory i.args ∧ X (w.forCall tape i).memory i.args) ∧ sizedMet enc C.prog fn (OpenSpec.ofChange s) apart (w.forCall tape i).memory i.args) ∧ a.holds C.prog (lone (Frame.enter C.prog f i.args .normal) [] (w.forCall tape i)))
    (contract : ∀ (W : World) (base : Nat) (args : Array Value) (ds gs : List (DataW H)) (before : List MemPlace),
      (∀ (j : Nat) t v, fn.params[j]? = some t → args[j]? = some v → Value.okWide C.prog W .any base t v) →
      DataW.Whole enc C.prog fn.params.toList s.vars apart W args.toList ds gs before →
      conds.all (PathCond.test C.prog ⟨fn.params.toList, ds, s.plain.varTypes C.prog, gs⟩) = true →
      (DataW.weightsEach C.prog (fn.params.toList ++ s.plain.varTypes C.prog) (ds ++ gs)).all (· ≤ reachBytes) = true → X W args → W.ShapedOpen C.prog →
      a.holds C.prog (lone (Frame.enter C.prog f args .normal) [] W) →
      Calls C.prog f args W fun e W' => ∃ v, e = .returned v ∧ s.post enc C.prog fn apart fresh handsOn again W args v W') :
    ReturnsInHanded a C os f .any (fun w args => (s.pre enc C.prog fn conds apart w args ∧ X w args) ∧ sizedMet enc C.prog fn (OpenSpec.ofChange s) apart w args) (s.post enc C.prog fn apart fresh handsOn again) := by
  refine returnsInHanded_of_calls own started noInit witness ?_
  intro w tape i _ hsh _ hok hpre hholds
  obtain ⟨_, _, _, fn', hfn', _, _, _, _, hval⟩ := hok
  have e : fn' = fn := Option.some.inj (hfn'.symm.trans hfn)
  subst e
  obtain ⟨⟨⟨ds, gs, before, hw, hc⟩, hx⟩, hz⟩ := hpre
  have hw' := DataW.Whole.of_heap (w' := w.forCall tape i) (by rfl) hw
  refine (contract (w.forCall tape i) w.heap.size i.args ds gs before hval hw' hc (hz.weights hw) (hX _ _ _ (by rfl) hx) hsh hholds).mono fun e W' ⟨v, he, hp⟩ => ?_
  subst he
  exact ChangeSpec.post_blind hp
end

/-! ### slices that came in -/
theorem list_of {α : Type} {p : Nat → α → Prop} : ∀ n : Nat, (∀ i, i < n → ∃ x, p i x) → ∃ xs : List α, xs.length = n ∧ ∀ i x, xs[i]? = some x → p i x
  | 0, _ => ⟨[], rfl, fun i x h => by simp at h⟩
  | n + 1, h => by
    obtain ⟨xs, hl, hp⟩ := list_of n fun i hi => h i (by omega)
    obtain ⟨x, hx⟩ := h n (by omega)
    refine ⟨xs ++ [x], by simp [hl], fun i y hy => ?_⟩
    rcases Nat.lt_or_ge i n with k | k
    · rw [List.getElem?_append_left (by omega)] at hy
      exact hp i y hy
    · rw [List.getElem?_append_right (by omega)] at hy
      have h0 : i - xs.length = 0 := by
        rcases Nat.eq_zero_or_pos (i - xs.length) with k0 | k0
        · exact k0
        · rw [List.getElem?_eq_none (by simp; omega)] at hy
          cases hy
      rw [h0] at hy
      simp at hy
      subst hy
      have : i = n := by omega
      rw [this]
      exact hx
section
variable {H : Type} {enc : TypeId × Value → H} {P : Program} {w : World} {spare : Nat → Bool} {held : Bool}
theorem open_sl {α : Type} {K : World → α → List Value → Prop} {Q : α → Prop} {size : Nat} {t e : TypeId} {fuel : Nat} {cs : List Value} {d : DataW H × List MemPlace} (ht : P.underlying t = some (.slice e)) (hC : P.cellsOf e = size) (hs0 : 0 < size)
    (hel : ∀ n cs' y, cs'.length = size → DataW.trod enc P w 0 spare held n e cs' = some y → ∃ x, K w x cs' ∧ Q x) (h : DataW.trod enc P w 0 spare held fuel t cs = some d) :
    ∃ v xs, cs = [v] ∧ SlAt K size w v xs ∧ ∀ x ∈ xs, Q x := by
  rcases DataW.trod_slice ht h with ⟨rfl, _⟩ | ⟨a, len, cap, elems, rest, n, _, rfl, _, _, hl, hm, hlen, hes, _, _⟩
  · exact ⟨_, [], rfl, ⟨none, 0, rfl, by simp, by omega, fun hp => absurd hp (by simp)⟩, fun x hx => by cases hx⟩
  · rw [hC] at hes
    obtain ⟨xs, hxl, hxs⟩ := list_of (p := fun i (x : α) => ∃ cs', w.cells? 0 (a.add (i * size)) size = some cs' ∧ K w x cs' ∧ Q x) len fun i hi => by
      have h1 := hes i hi
      rw [List.getElem?_eq_getElem (by omega)] at h1
      cases hc : w.cells? 0 (a.add (i * size)) size with
      | none => rw [hc] at h1; cases h1
      | some cs' =>
        rw [hc] at h1
        obtain ⟨x, hK, hQ⟩ := hel n cs' _ (World.cells?_some hc).2.1 h1
        exact ⟨x, cs', rfl, hK, hQ⟩
    refine ⟨_, xs, rfl, ⟨some a, cap, by rw [hxl], by omega, by simpa [maxLen] using hm, fun hp => ?_⟩, fun x hx => ?_⟩
    · have hadd : ∀ i j : Nat, (a.add i).add j = a.add (i + j) := fun i j => Go.Deep.add_add a i j
      have hspot : a.spot = none ∧ a.block < w.heap.size := by
        obtain ⟨x0, hx0⟩ : ∃ x, xs[0]? = some x := ⟨_, List.getElem?_eq_getElem hp⟩
        obtain ⟨cs', hc, _, _⟩ := hxs 0 x0 hx0
        obtain ⟨_, hcl, hat⟩ := World.cells?_some hc
        have h1 := hat 0 hs0
        rw [List.getElem?_eq_getElem (by omega)] at h1
        have h2 : (a.add (0 * size)).add 0 = a := by rw [hadd]; simp [Addr.add]
        rw [h2] at h1
        refine ⟨?_, World.block_lt_of_cell? w a h1⟩
        unfold World.cell? at h1
        split at h1
        · split at h1
          · cases h1
          · rename_i hsp
            cases hq : a.spot with
            | none => rfl
            | some _ => rw [hq] at hsp; simp at hsp
        · cases h1
      obtain ⟨b, off, sp⟩ := a
      obtain ⟨rfl, hlt⟩ := hspot
      refine ⟨b, off, rfl, hlt, fun j x hj => ?_⟩
      obtain ⟨cs', hc, hK, _⟩ := hxs j x hj
      obtain ⟨_, hcl, hat⟩ := World.cells?_some hc
      refine ⟨cs', hcl, hK, fun i u hi => ?_⟩
      have hil : i < size := by rw [← hcl]; exact (List.getElem?_eq_some_iff.1 hi).1
      have h1 := hat i hil
      rw [hadd, hi] at h1
      have h2 : (⟨b, off, none⟩ : Addr).add (j * size + i) = ⟨b, off + j * size + i, none⟩ := by
        unfold Addr.add
        split
        · rename_i h0
          have h0 : j * size + i = 0 := by simpa using h0
          have e3 : off + j * size + i = off := by omega
          rw [e3]
        · rw [← Nat.add_assoc]
      rw [h2] at h1
      exact h1
    · obtain ⟨i, hi, rfl⟩ := List.getElem_of_mem hx
      obtain ⟨_, _, _, hQ⟩ := hxs i _ (List.getElem?_eq_getElem hi)
      exact hQ
end
end Go.Proofs.YtgjlgpaoilaikaaGreatDoor
