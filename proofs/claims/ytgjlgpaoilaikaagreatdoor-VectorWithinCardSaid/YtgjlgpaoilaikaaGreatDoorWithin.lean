/-
  VectorWithin: proved: whatever the vectors, called in whatever memory, the law returns true, and its arguments read as they did; the listed variables hold what the program's text lays (tied).
-/
import Derived.Test.YtgjlgpaoilaikaaGreatDoorR2
import Derived.Test.YtgjlgpaoilaikaaGreatDoorW3
import Derived.Test.YtgjlgpaoilaikaaGreatDoorTie
import Derived.Test.YtgjlgpaoilaikaaGreatDoorCards
namespace Go.Proofs.YtgjlgpaoilaikaaGreatDoor
open Go.ChangeShapes Go.WideShapes Go.ChangeAt Go.RowKit
open Go.ChangeMaps (open_string shut_string)

set_option maxRecDepth 100000 in
theorem within2_lifted (os : Os) (started : os.Started) (H : Type) (enc : TypeId × Value → H) :
    ReturnsInHanded {} Tryz.checked os 5 .any (fun w args => (Rows.vectorWithinSpec.pre enc Tryz.prog Tryz.f5 Rows.vectorWithinRow.domain false w args ∧ laidMetH Tryz.prog Rows.vectorWithinRow.laid w) ∧ sizedMet enc Tryz.prog Tryz.f5 (OpenSpec.ofChange Rows.vectorWithinSpec) false w args)
      (Rows.vectorWithinSpec.post enc Tryz.prog Tryz.f5 false true false false) := by
  refine returns_laid (C := Tryz.checked) (X := fun w _ => laidMetH Tryz.prog Rows.vectorWithinRow.laid w) (fun _ _ _ hh h => h.of_heap hh) own started (by kernel_rfl) Tryz.func5
    (ChangeSpec.witness_shaped (enc := enc) (C := Tryz.checked) (os := os) (X := fun w _ => laidMetH Tryz.prog Rows.vectorWithinRow.laid w) false (World.laidAll Tryz.prog os Rows.vectorWithinRow.laid) #[.agg #[.slice none 0 0, .slice none 0 0], .int .u32 0] 8 (World.laidAll_os _ _ _)
      (World.shaped_of_ZipB (by kernel_rfl) (by kernel_rfl)) (by kernel_rfl) (by kernel_rfl) (by kernel_rfl)
      (by rw [MakeChecks.laidMetH_plain _ _ _ (by kernel_rfl)]; exact laidMet_laidAll _ (by kernel_rfl) (by kernel_rfl))) ?_
  intro W base args ds gs before hval0 hW hc hsz0 hL hsh _
  have hval : ∀ (j : Nat) t v, Tryz.f5.params[j]? = some t → args[j]? = some v → Value.okWide Tryz.prog W .any base t v := hval0
  have hW' := hW
  obtain ⟨p, q, hA0, hV, rfl, _, _⟩ := hW
  have hA : DataW.TrodAll enc Tryz.prog W 0 (fun _ => true) true Tryz.f5.params.toList args.toList ds p := hA0
  rw [Tryz.params5] at hA hval
  obtain ⟨v0, vs0, d0, ds0, p0, q0, hargs, rfl, rfl, h0, r0⟩ := trodAll_cons hA
  obtain ⟨v1, vs1, d1, ds1, p1, q1, rfl, rfl, rfl, h1, r1⟩ := trodAll_cons r0
  obtain ⟨rfl, rfl, rfl⟩ := trodAll_nil r1
  obtain rfl : args = #[v0, v1] := by cases args; simp_all
  obtain ⟨n, rfl, rfl, rfl, hn⟩ := open_int Tryz.underlying49 (hval 1 49 v1 rfl rfl) h1
  obtain ⟨hn0, hn1⟩ := bounds_u32 hn
  obtain ⟨rfl, rfl⟩ := trodVars_none hV
  obtain ⟨cs, rfl, hsz, _⟩ : ∃ cs, v0 = .agg cs ∧ cs.size = Tryz.prog.cellsOf 48 ∧ Row.okWide Tryz.prog W .any base 48 cs := by
    have := hval 0 48 v0 rfl rfl
    simpa [Value.okWide, Tryz.underlying48] using this
  have csz : Tryz.prog.cellsOf 48 = 2 := by kernel_rfl
  rw [csz] at hsz
  obtain ⟨l⟩ := cs
  obtain ⟨va, vb, rfl⟩ := pair_of hsz
  have k0 := h0
  have lt0 : ∀ x ∈ p0, x.block < W.heap.size := by obtain ⟨m, hm⟩ := k0; exact DataW.trod_lt m _ _ _ hm
  have hop : ∀ (i : Nat) (v : Value), [va, vb][i]? = some v → ∃ xs, VAt W v xs ∧ VFine xs := by
    obtain ⟨fuel, hf⟩ := h0
    exact open_vecs Tryz.underlying48 rfl hf
  obtain ⟨a, ha, hfa⟩ := hop 0 va rfl
  obtain ⟨b, hb, hfb⟩ := hop 1 vb rfl
  have hgl : Glob W := by
    rw [MakeChecks.laidMetH_plain _ _ _ (by kernel_rfl)] at hL
    exact glob_of hL hsh
  clear hA0 hval0 hsz0 hop
  refine (within2_any va vb a b n W ha hb hfa hfb hn0 hn1 hgl).mono fun e W' ⟨he, bel⟩ => ?_
  subst he
  exact ⟨_, rfl, _, _, _, [], _, [], hW', trodAll_mk1 (shut_bool Tryz.underlying4 _), (trodAll_cons_mk (Below.trod laidOut (by kernel_rfl) (of_decide_eq_true (by kernel_rfl)) k0 bel lt0) (trodAll_cons_mk (shut_int Tryz.underlying49 hn) trodAll_mk0)), rfl, bel.frame _, fun h => by cases h⟩

theorem within2_holds : Rows.VectorWithinSaid :=
  OpenClaim.holds_of_wide 5 Tryz.f5 rfl rfl rfl rfl rfl rfl rfl ⟨rfl, rfl, rfl, rfl, rfl⟩ rfl rfl rfl rfl rfl (by kernel_rfl) Tryz.func5 (by kernel_rfl)
    (of_decide_eq_true (by kernel_rfl)) (by unfold Func.isWrapper; first | (rw [if_pos (by decide +kernel)]; kernel_rfl) | (rw [if_neg (by decide +kernel)]; exact ⟨rfl, rfl⟩))
    (fun os started H enc _ => within2_lifted os started H enc)
theorem vectorWithin_holds : Rows.VectorWithinCardSaid :=
  Claim7.holds_tied_plain_at .later [] [.data, .data, .data, .data, .sentinel, .sentinel, .data, .pinned] true Rows.vectorWithinCard.stood.harness true within2_holds (fun _ h => by cases h) (by kernel_rfl) (fun _ h => by cases h) vectorWithin_row_tie rfl ⟨rfl, rfl⟩ (by kernel_rfl) rfl
    (fun f fn hf hfn => by
      obtain rfl : f = 5 := Option.some.inj ((show Tryz.prog.funcNamed "scutage/scutagelaw04.VectorWithin" = some 5 by kernel_rfl).symm.trans hf) |>.symm
      obtain rfl : fn = Tryz.f5 := (Option.some.inj (Tryz.func5.symm.trans hfn)).symm
      exact ⟨by kernel_rfl, fun j t ht => by
        rw [Tryz.params5] at ht
        have hm : t ∈ [48, 49] := by simpa using Array.mem_of_getElem? ht
        have hall : ([48, 49].all fun u => !Tryz.prog.wantsStandIn u) = true := by kernel_rfl
        exact (show Tryz.prog.wantsStandIn t = false by simpa using List.all_eq_true.1 hall t hm)⟩)
    (by kernel_rfl)
#print axioms vectorWithin_holds
end Go.Proofs.YtgjlgpaoilaikaaGreatDoor
