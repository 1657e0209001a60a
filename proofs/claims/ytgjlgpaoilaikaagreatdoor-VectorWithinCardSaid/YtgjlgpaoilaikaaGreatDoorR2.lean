/-
  Arrays of vectors that came in, opened.
-/
import Derived.Test.YtgjlgpaoilaikaaGreatDoorR1
namespace Go.Proofs.YtgjlgpaoilaikaaGreatDoor
open Go.ChangeShapes Go.WideShapes Go.ChangeAt Go.RowKit

section
variable {H : Type} {enc : TypeId × Value → H} {w : World} {spare : Nat → Bool} {held : Bool}
theorem pair_of {α : Type} : ∀ {l : List α}, l.length = 2 → ∃ a b, l = [a, b]
  | [a, b], _ => ⟨a, b, rfl⟩
theorem three_of {α : Type} : ∀ {l : List α}, l.length = 3 → ∃ a b c, l = [a, b, c]
  | [a, b, c], _ => ⟨a, b, c, rfl⟩
set_option maxRecDepth 100000 in
theorem open_wide (n : Nat) (cs : List Value) (y : DataW H × List MemPlace) (hl : cs.length = 2)
    (h : DataW.trod enc Tryz.prog w 0 spare held n 41 cs = some y) : ∃ i l : Int, cs = [.int .i64 i, .int .u64 l] ∧ (-9223372036854775808 ≤ i ∧ i ≤ 9223372036854775807) ∧ 0 ≤ l ∧ l ≤ 18446744073709551615 := by
  obtain ⟨xs, m, _, _, _, hxl, hf⟩ := DataW.trod_struct Tryz.underlying41 h
  have c0 : Tryz.prog.cellsOf 2 = 1 := by kernel_rfl
  have c1 : Tryz.prog.cellsOf 39 = 1 := by kernel_rfl
  have f0 : DataW.trod enc Tryz.prog w 0 spare held m 2 ((cs.drop 0).take (Tryz.prog.cellsOf 2)) = xs[0]? := hf 0 _ rfl
  have f1 : DataW.trod enc Tryz.prog w 0 spare held m 39 ((cs.drop 1).take (Tryz.prog.cellsOf 39)) = xs[1]? := hf 1 _ rfl
  rw [c0] at f0
  rw [c1] at f1
  obtain ⟨a, b, rfl⟩ := pair_of hl
  obtain ⟨y0, h0⟩ : ∃ y0, xs[0]? = some y0 := ⟨_, List.getElem?_eq_getElem (by rw [hxl]; decide)⟩
  obtain ⟨y1, h1⟩ : ∃ y1, xs[1]? = some y1 := ⟨_, List.getElem?_eq_getElem (by rw [hxl]; decide)⟩
  rw [h0] at f0
  rw [h1] at f1
  obtain ⟨i, e0, _, hi⟩ := DataW.trod_int Tryz.underlying2 f0
  obtain ⟨l, e1, _, hl2⟩ := DataW.trod_int Tryz.underlying39 f1
  simp only [List.drop_zero, List.take_succ_cons, List.take_zero, List.drop_succ_cons, List.cons.injEq, and_true] at e0 e1
  subst e0 e1
  exact ⟨i, l, rfl, bounds_i64 hi, bounds_u64 hl2⟩
set_option maxRecDepth 100000 in
theorem open_entry (n : Nat) (cs : List Value) (y : DataW H × List MemPlace) (hl : cs.length = 3)
    (h : DataW.trod enc Tryz.prog w 0 spare held n 45 cs = some y) : ∃ x : Ent, KE w x cs ∧ EntOk x := by
  obtain ⟨xs, m, _, _, _, hxl, hf⟩ := DataW.trod_struct Tryz.underlying45 h
  have c0 : Tryz.prog.cellsOf 9 = 1 := by kernel_rfl
  have c1 : Tryz.prog.cellsOf 41 = 2 := by kernel_rfl
  have f0 : DataW.trod enc Tryz.prog w 0 spare held m 9 ((cs.drop 0).take (Tryz.prog.cellsOf 9)) = xs[0]? := hf 0 _ rfl
  have f1 : DataW.trod enc Tryz.prog w 0 spare held m 41 ((cs.drop 1).take (Tryz.prog.cellsOf 41)) = xs[1]? := hf 1 _ rfl
  rw [c0] at f0
  rw [c1] at f1
  obtain ⟨a, b, c, rfl⟩ := three_of hl
  obtain ⟨y0, h0⟩ : ∃ y0, xs[0]? = some y0 := ⟨_, List.getElem?_eq_getElem (by rw [hxl]; decide)⟩
  obtain ⟨y1, h1⟩ : ∃ y1, xs[1]? = some y1 := ⟨_, List.getElem?_eq_getElem (by rw [hxl]; decide)⟩
  rw [h0] at f0
  rw [h1] at f1
  obtain ⟨s, e0, _, hs⟩ := DataW.trod_string Tryz.underlying9 f0
  obtain ⟨i, l, e1, ⟨hi0, hi1⟩, hl0, hl1⟩ := open_wide m _ y1 rfl f1
  simp only [List.drop_zero, List.take_succ_cons, List.take_zero, List.drop_succ_cons, List.cons.injEq, and_true] at e0 e1
  obtain ⟨e1, e2⟩ := e1
  subst e0 e1 e2
  obtain ⟨w1, w2⟩ := w_of i l hl0 hl1
  refine ⟨⟨s, i * 18446744073709551616 + l⟩, ?_, by simpa [maxLen] using hs, ?_⟩
  · show _ = encE _
    unfold encE
    rw [w1, w2]
  · rw [wOk_iff]
    dsimp only
    omega
set_option maxRecDepth 100000 in
theorem open_vec (n : Nat) (cs : List Value) (y : DataW H × List MemPlace) (h : DataW.trod enc Tryz.prog w 0 spare held n 27 cs = some y) : ∃ v xs, cs = [v] ∧ VAt w v xs ∧ VFine xs :=
  open_sl (K := KE) (Q := EntOk) (size := 3) Tryz.underlying27 (by kernel_rfl) (by omega) (fun n cs' y hl hh => open_entry n cs' y hl hh) h
set_option maxRecDepth 100000 in
theorem open_vecs {t : TypeId} {n fuel : Nat} {cs : List Value} {y : DataW H × List MemPlace} (ht : Tryz.prog.underlying t = some (.array n 27)) (hl : cs.length = n) (h : DataW.trod enc Tryz.prog w 0 spare held fuel t cs = some y) :
    ∀ (i : Nat) (v : Value), cs[i]? = some v → ∃ xs, VAt w v xs ∧ VFine xs := by
  obtain ⟨ys, m, _, _, _, hyl, hel⟩ := DataW.trod_array ht h
  intro i v hi
  have hlt : i < n := by rw [← hl]; exact (List.getElem?_eq_some_iff.1 hi).1
  have h1 := hel i hlt
  have c1 : Tryz.prog.cellsOf 27 = 1 := by kernel_rfl
  rw [c1, Nat.mul_one, List.getElem?_eq_getElem (by omega)] at h1
  obtain ⟨v', xs, e, h2, h3⟩ := open_vec m _ _ h1
  have e2 : (List.take 1 (List.drop i cs))[0]? = some v := by simpa using hi
  rw [e] at e2
  simp at e2
  rw [← e2]
  exact ⟨xs, h2, h3⟩
end
end Go.Proofs.YtgjlgpaoilaikaaGreatDoor
