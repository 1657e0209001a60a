/-
  VectorWithin walked: whatever the two vectors and the number, it returns true.
-/
import Derived.Test.YtgjlgpaoilaikaaGreatDoorW2
namespace Go.Proofs.YtgjlgpaoilaikaaGreatDoor
open Go.RowKit Go.Maps Go.Sort
theorem rcmp_is (a b t : Int) (w : World) (h : cmpI a b = t) :
    Calls Tryz.prog 20 #[.agg #[.int .i64 (wHi a), .int .u64 (wLo a)], .agg #[.int .i64 (wHi b), .int .u64 (wLo b)]] w fun e w' => e = .returned (.int .i64 t) ∧ Below w.heap.size w w' := by
  have := rcmp_any a b w
  rw [h] at this
  exact this

set_option maxRecDepth 100000 in
set_option maxHeartbeats 2000000 in
theorem within2_any (va vb : Value) (a b : List Ent) (n : Int) (w : World) (ha : VAt w va a) (hb : VAt w vb b) (hfa : VFine a) (hfb : VFine b) (hn0 : 0 ≤ n) (hn1 : n ≤ 4294967295) (hg : Glob w) :
    Calls Tryz.prog 5 #[.agg #[va, vb], .int .u32 n] w fun e w' => e = .returned (.bool true) ∧ Below w.heap.size w w' := by
  obtain ⟨A, ca, rfl, _, _⟩ := ha.each
  obtain ⟨Ab, cb, rfl, hlm, hcell⟩ := hb.each
  have HA := Lib.hid ha
  have HB := Lib.hid hb
  have HF := Lib.hid (And.intro hfa hfb)
  have HG := Lib.hid hg
  clear ha hb hfa hfb hg hcell
  obtain ⟨fa, hfa⟩ : ∃ r, lawFit a = r := ⟨_, rfl⟩
  obtain ⟨fb, hfb⟩ : ∃ r, lawFit b = r := ⟨_, rfl⟩
  obtain ⟨ra, hra⟩ : ∃ r, vRight a = r := ⟨_, rfl⟩
  obtain ⟨rb, hrb⟩ : ∃ r, vRight b = r := ⟨_, rfl⟩
  have HFA := Lib.hid hfa
  have HFB := Lib.hid hfb
  have HRA := Lib.hid hra
  have HRB := Lib.hid hrb
  clear hfa hfb hra hrb
  go_enter Tryz.func5, Tryz.ntmps5
  go_wp2_with fail
  obtain ⟨W1, hW1, HS, HK, hB1⟩ := box1 w #[.slice A a.length ca, .slice Ab b.length cb] 48
  rw [hW1]
  clear hW1
  refine (lfits_is _ a fa _ (HA.out.below hB1) HFA.out).mono ?_
  rintro e w2 ⟨rfl, rfl⟩
  go_wp2_with fail
  refine (lfits_is _ b fb _ (HB.out.below hB1) HFB.out).mono ?_
  rintro e w2 ⟨rfl, rfl⟩
  have hdone : Hid (∀ W, Below w.heap.size w W → Calls Tryz.prog 6 #[] W fun e w' => e = .returned (.bool true) ∧ Below w.heap.size w w') := Lib.hid fun W hW =>
    (alive_any _ (HG.out.below hW)).mono fun e w' h => ⟨h.1, below_then' hW hW.size h.2⟩
  cases fa
  · go_wp2_with (go_at_call 6; refine (hdone.out _ hB1).mono ?_; rintro e w3 ⟨rfl, hb3⟩)
    go_ret
    exact ⟨rfl, hb3⟩
  cases fb
  · go_wp2_with (go_at_call 6; refine (hdone.out _ hB1).mono ?_; rintro e w3 ⟨rfl, hb3⟩)
    go_ret
    exact ⟨rfl, hb3⟩
  have hla := lawFit_len HFA.out
  have hlb := lawFit_len HFB.out
  go_wp2_with fail
  refine (vright_is _ a ra _ (HA.out.below hB1) HF.out.1 HRA.out).mono ?_
  rintro e w2 ⟨rfl, hb2⟩
  have hB2 := below_then' hB1 hB1.size hb2
  clear hb2 hB1 HS HK
  cases ra
  · go_wp2_with (go_at_call 6; refine (hdone.out _ hB2).mono ?_; rintro e w3 ⟨rfl, hb3⟩)
    go_ret
    exact ⟨rfl, hb3⟩
  go_wp2_with fail
  refine (vright_is _ b rb _ (HB.out.below hB2) HF.out.2 HRB.out).mono ?_
  rintro e w3 ⟨rfl, hb2⟩
  have hB3 := below_then' hB2 hB2.size hb2
  clear hb2 hB2
  cases rb
  · go_wp2_with (go_at_call 6; refine (hdone.out _ hB3).mono ?_; rintro e w4 ⟨rfl, hb4⟩)
    go_ret
    exact ⟨rfl, hb4⟩
  go_wp2_with fail
  -- Within(a, a)
  refine (within_is _ _ a a true ⟨#[]⟩ _ (HA.out.below hB3) (HA.out.below hB3) HF.out.1 HF.out.1 (within_own HRA.out)).mono ?_
  rintro e w4 ⟨rfl, hb2⟩
  have hB4 := below_then' hB3 hB3.size hb2
  clear hb2 hB3
  go_wp2_with fail
  -- Within(a, b)
  obtain ⟨r, s, hW⟩ : ∃ r s, vWithin a b = (r, s) := ⟨_, _, rfl⟩
  have HT := Lib.hid (within_told HRA.out HRB.out hW)
  refine (within_is _ _ a b r s _ (HA.out.below hB4) (HB.out.below hB4) HF.out.1 HF.out.2 hW).mono ?_
  rintro e w5 ⟨rfl, hb2⟩
  have hB5 := below_then' hB4 hB4.size hb2
  clear hb2 hB4 hW
  have HAA := Lib.hid (HA.out.below hB5)
  have HBB := Lib.hid (HB.out.below hB5)
  have HEACH := Lib.hid (show ∀ W, Below w5.heap.size w5 W → ∀ j y, b[j]? = some y → ∃ g off, Ab = some ⟨g, off, none⟩ ∧ W.cell? ⟨g, off + j * 3, none⟩ = some (.string y.name) ∧ W.cell? ⟨g, off + j * 3 + 1, none⟩ = some (.int .i64 (wHi y.n)) ∧ W.cell? ⟨g, off + j * 3 + 2, none⟩ = some (.int .u64 (wLo y.n)) from by
    obtain ⟨A', c', he, _, h⟩ := HBB.out.each
    cases he
    exact h)
  clear HA HB
  go_wp2_with fail
  go_loopw [13] (fun i wr => ∃ k : Nat, k ≤ b.length ∧ i = .int .i64 k ∧ Below w5.heap.size w5 wr) (fun i _ => b.length - (intOf i).toNat)
  case atStart => exact ⟨0, by omega, rfl, Below.refl _ _⟩
  case round =>
    obtain ⟨k, hk, rfl, hB⟩ := hrel
    have hbs := hB.size
    by_cases hlt : k < b.length
    · obtain ⟨y, hy⟩ : ∃ y, b[k]? = some y := ⟨_, List.getElem?_eq_getElem hlt⟩
      obtain ⟨g0, off, rfl, c0, c1, c2⟩ := HEACH.out wr hB k y hy
      have hym := List.mem_of_getElem? hy
      obtain ⟨t, ht⟩ : ∃ t, cmpI (vGet a y.name) y.n = t := ⟨_, rfl⟩
      have HTY := Lib.hid (show (r = true ∧ ¬ 0 < t) ∨ (r = false ∧ 0 < t ∧ nm y.name = nm s) ∨ (r = false ∧ ¬ 0 < t ∧ nm y.name ≠ nm s) ∨ (r = false ∧ 0 < t ∧ nm y.name ≠ nm s ∧ nm s < nm y.name) from by
        rcases HT.out with ⟨rfl, _, h⟩ | ⟨rfl, _, h⟩
        · have h1 := h y hym
          rw [ht] at h1
          exact .inl ⟨rfl, by omega⟩
        · have h1 := h y hym
          rw [ht] at h1
          rcases h1 with ⟨h1, h2⟩ | ⟨h1, h2⟩ | h
          · exact .inr (.inl ⟨rfl, h1, h2⟩)
          · exact .inr (.inr (.inl ⟨rfl, by omega, h2⟩))
          · exact .inr (.inr (.inr ⟨rfl, h⟩)))
      have HC := Lib.hid ht
      have HAr := Lib.hid (HAA.out.below hB)
      have q0 := bw_cell c0
      have q1 := bw_cell c1
      have q2 := bw_cell c2
      clear hy hym ht c0 c1 c2
      go_wp2_with fail
      refine wp_region_bw (by kernel_rfl) (by kernel_rfl) ?_
      repeat (go_big_quiet_step (first
        | (go_at_call 18; exact Calls.bw (get_is _ a y.name _ _ (HAr.out.below (Bw.h _)) rfl))
        | (go_at_call 20; exact Calls.bw (rcmp_is (vGet a y.name) y.n t _ HC.out))))
      refine wpQuiet_nil ?_
      intro W2 hw'
      obtain ⟨⟨_, hB2⟩, hw''⟩ := hw'
      subst hw''
      have d0 := q0 ⟨W2, hB2⟩
      have hB3 := below_then' hB (by omega) hB2
      clear q0 q1 q2
      rcases HTY.out with ⟨rfl, h1⟩ | ⟨rfl, h1, h2⟩ | ⟨rfl, h1, h2⟩ | ⟨rfl, h1, h2, h3⟩
      · go_wp2_with fail
        exact ⟨⟨k + 1, by omega, by go_num, hB3⟩, by simp [intOf]; omega⟩
      · have hbe : (y.name.toList == s.toList) = true := by rw [nm_toList, nm_toList, h2]; simp
        go_wp2_with fail
        exact ⟨⟨k + 1, by omega, by go_num, hB3⟩, by simp [intOf]; omega⟩
      · have hbe : (y.name.toList == s.toList) = false := by rw [nm_toList, nm_toList]; simpa using h2
        go_wp2_with fail
        exact ⟨⟨k + 1, by omega, by go_num, hB3⟩, by simp [intOf]; omega⟩
      · have hbe : (y.name.toList == s.toList) = false := by rw [nm_toList, nm_toList]; simpa using h2
        have hbl : Op.bytesLess y.name.toList s.toList = false := by rw [nm_toList, nm_toList, Proofs.bytesLess_eq]; exact decide_eq_false fun h => lt_irr _ (lt_tr h h3)
        go_wp2_with fail
        exact ⟨⟨k + 1, by omega, by go_num, hB3⟩, by simp [intOf]; omega⟩
    · have hdone2 : Hid (∀ W, Below wr.heap.size wr W → Calls Tryz.prog 6 #[] W fun e w' => e = .returned (.bool true) ∧ Below w.heap.size w w') := Lib.hid fun W hW =>
        hdone.out _ (below_then' (below_then' hB5 hB5.size hB) (by have := hB5.size; omega) hW)
      by_cases hz : b.length = 0
      · have hz2 : ((b.length : Int) == 0) = true := by simp [hz]
        rcases HT.out with ⟨rfl, rfl, _⟩ | ⟨rfl, h, _⟩
        · go_wp2_with (go_at_call 6; refine (hdone2.out _ (Below.refl _ _)).mono ?_; rintro e w6 ⟨rfl, hb3⟩)
          go_ret
          exact ⟨rfl, hb3⟩
        · exact absurd (List.eq_nil_of_length_eq_zero hz) h
      · have hz2 : ((b.length : Int) == 0) = false := beq_eq_false_iff_ne.2 (by omega)
        obtain ⟨y0, hb0⟩ : ∃ y0, b[0]? = some y0 := ⟨_, List.getElem?_eq_getElem (by omega)⟩
        obtain ⟨g0, off, rfl, c0, c1, c2⟩ := HEACH.out wr hB 0 y0 hb0
        have d0 : wr.cell? ⟨g0, off, none⟩ = some (.string y0.name) := by simpa using c0
        have hm0 := Lib.hid (List.mem_of_getElem? hb0)
        clear c0
        have hy0 := HF.out.2 y0 hm0.out
        have hpos : 0 < b.length := by omega
        clear hb0
        have hf1 : VFine [⟨y0.name, n + 1⟩] := fine_cons ⟨hy0.1, by rw [wOk_iff]; dsimp only; omega⟩ fine_nil
        have hlo : wHi (n + 1) = 0 ∧ wLo (n + 1) = n + 1 := by
          constructor
          · unfold wHi; omega
          · unfold wLo; omega
        have hwr : IntKind.u64.wrap (n + 1) = n + 1 := by rw [u64w]; omega
        obtain ⟨big, e0, hbig, hlbig, hfbig, hcase⟩ := sum_cases b [⟨y0.name, n + 1⟩] HF.out.2 hf1
        have HF1 := Lib.hid hf1
        have HBIG := Lib.hid hbig
        have HFB := Lib.hid hfbig
        have HCS := Lib.hid (show e0 = 0 ∨ e0 = 3 ∨ e0 = 1 from by rcases hcase with ⟨h, _⟩ | ⟨h, _⟩ | ⟨h, _⟩ <;> simp [h])
        have HBr := Lib.hid (HBB.out.below hB)
        have HAr := Lib.hid (HAA.out.below hB)
        clear hf1 hbig hfbig hcase hy0
        go_wp2_with fail
        have hb0 := (Below.refl wr.heap.size wr).alloc (Nat.le_refl _) (.cells #[.string y0.name, .int .i64 0, .int .u64 (n + 1)] 45)
        refine (vadd_is _ _ b [⟨y0.name, n + 1⟩] big e0 _ (HBr.out.below hb0) (lit_at (enc := encE) [⟨y0.name, n + 1⟩] wr _ _ (by simp [encE, hlo.1, hlo.2]) (fun _ => rfl) (by simp)) HF.out.2 HF1.out (by omega) (by simp) HBIG.out).mono ?_
        rintro e w6 ⟨vg, rfl, ho, hb1⟩
        obtain ⟨Ag, cg, rfl⟩ := own_shape ho
        have HGG := Lib.hid (own_VAt ho)
        have hb2 := below_then' hb0 (by simp) hb1
        have HAs := Lib.hid (HAr.out.below hb2)
        clear hb0 hb1 ho d0 c1 c2 HBr HAr
        rcases HCS.out with rfl | rfl | rfl
        · rcases HT.out with ⟨rfl, rfl, hin⟩ | ⟨rfl, _, _⟩
          · by_cases hlen : big.length < b.length
            · have hd : decide ((big.length : Int) < (b.length : Int)) = true := decide_eq_true (by omega)
              go_wp2_with (go_at_call 6; refine (hdone2.out _ hb2).mono ?_; rintro e w7 ⟨rfl, hb3⟩)
              go_ret
              exact ⟨rfl, hb3⟩
            · have hd : decide ((big.length : Int) < (b.length : Int)) = false := decide_eq_false (by omega)
              have HWB := Lib.hid (big_within HRA.out HRB.out (fun y hy => by have := hin y hy; omega) hm0.out (by omega) HBIG.out)
              clear hin
              go_wp2_with fail
              refine (within_is _ _ a big true ⟨#[]⟩ _ HAs.out HGG.out HF.out.1 HFB.out HWB.out).mono ?_
              rintro e w7 ⟨rfl, hb3⟩
              have hb4 := below_then' hb2 hb2.size hb3
              go_wp2_with (go_at_call 6; refine (hdone2.out _ hb4).mono ?_; rintro e w8 ⟨rfl, hb5⟩)
              go_ret
              exact ⟨rfl, hb5⟩
          · go_wp2_with (go_at_call 6; refine (hdone2.out _ hb2).mono ?_; rintro e w7 ⟨rfl, hb3⟩)
            go_ret
            exact ⟨rfl, hb3⟩
        · go_wp2_with (go_at_call 6; refine (hdone2.out _ hb2).mono ?_; rintro e w7 ⟨rfl, hb3⟩)
          go_ret
          exact ⟨rfl, hb3⟩
        · go_wp2_with (go_at_call 6; refine (hdone2.out _ hb2).mono ?_; rintro e w7 ⟨rfl, hb3⟩)
          go_ret
          exact ⟨rfl, hb3⟩
end Go.Proofs.YtgjlgpaoilaikaaGreatDoor
