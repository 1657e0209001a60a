/-
  VectorMakes walked: whatever the resources and the text, it returns true.
-/
import Derived.Test.YtgjlgpaoilaikaaGreatDoorA1
namespace Go.Proofs.YtgjlgpaoilaikaaGreatDoor
open Go.RowKit Go.Maps Go.Sort

theorem rvof_is (va : Value) (l : List Res) (r : List Ent) (e0 : Int) (w : World) (ha : RAt w va l) (hf : RFine l) (h : vOf l = (r, e0)) :
    Calls Tryz.prog 8 #[va] w fun e w' => ∃ v, e = .returned (.tuple #[v, .int .i64 e0]) ∧ w'.ownsRow w.heap.size 45 3 v r.length (r.flatMap encE) ∧ Below w.heap.size w w' := by
  have := rvof_any va l w ha hf
  rw [h] at this
  exact this
theorem rvparse_is (s : ByteArray) (r : List Res) (e0 : Int) (w : World) (hs : s.size ≤ 100000) (h : vParse (nm s) = (r, e0)) :
    Calls Tryz.prog 10 #[.string s] w fun e w' => ∃ v, e = .returned (.tuple #[v, .int .i64 e0]) ∧ w'.ownsRow w.heap.size 25 2 v r.length (r.flatMap encR) ∧ Below w.heap.size w w' := by
  have := rvparse_any s w hs
  rw [h] at this
  exact this
theorem rsame_is (va vb : Value) (xs ys : List Ent) (r : Bool) (w : World) (ha : VAt w va xs) (hb : VAt w vb ys) (h : vSame xs ys = r) :
    Calls Tryz.prog 11 #[va, vb] w fun e w' => e = .returned (.bool r) ∧ Below w.heap.size w w' := by
  have := rsame_any va vb xs ys w ha hb
  rw [h] at this
  exact this
theorem rress_is (va vb : Value) (xs ys : List Res) (r : Bool) (w : World) (ha : RAt w va xs) (hb : RAt w vb ys) (h : resSame xs ys = r) :
    Calls Tryz.prog 12 #[va, vb] w fun e w' => e = .returned (.bool r) ∧ Below w.heap.size w w' := by
  have := rress_any va vb xs ys w ha hb
  rw [h] at this
  exact this

set_option maxRecDepth 100000 in
set_option maxHeartbeats 2000000 in
theorem makes_any (va : Value) (l : List Res) (s : ByteArray) (w : World) (ha : RAt w va l) (hf : RFine l) (hs : s.size ≤ 9223372036854775807) (hg : Glob w) :
    Calls Tryz.prog 3 #[va, .string s] w fun e w' => e = .returned (.bool true) ∧ Below w.heap.size w w' := by
  obtain ⟨A, c, rfl, hlm, hcell⟩ := ha.each
  have HA := Lib.hid ha
  have HF := Lib.hid hf
  have HG := Lib.hid hg
  have HC := Lib.hid hcell
  clear ha hf hg hcell
  by_cases h40 : 40 < l.length
  · go_enter Tryz.func3, Tryz.ntmps3
    have hd : decide ((40 : Int) < (l.length : Int)) = true := decide_eq_true (by omega)
    go_wp2_with (go_at_call 6; refine (alive_any _ HG.out).mono ?_; rintro e w1 ⟨rfl, hB1⟩)
    go_ret
    exact ⟨rfl, hB1⟩
  · have hd : decide ((40 : Int) < (l.length : Int)) = false := decide_eq_false (by omega)
    by_cases h600 : 600 < s.size
    · have hd2 : decide ((600 : Int) < (s.size : Int)) = true := decide_eq_true (by omega)
      go_enter Tryz.func3, Tryz.ntmps3
      go_wp2_with (go_at_call 6; refine (alive_any _ HG.out).mono ?_; rintro e w1 ⟨rfl, hB1⟩)
      go_ret
      exact ⟨rfl, hB1⟩
    · have hd2 : decide ((600 : Int) < (s.size : Int)) = false := decide_eq_false (by omega)
      go_enter Tryz.func3, Tryz.ntmps3
      go_wp2_with fail
      go_loop [5] (fun i => ∃ k : Nat, k ≤ l.length ∧ i = .int .i64 k) (fun i => l.length - (intOf i).toNat)
      case atStart => exact ⟨0, by omega, rfl⟩
      case round =>
        obtain ⟨k, hk, rfl⟩ := hrel
        by_cases hlt : k < l.length
        · obtain ⟨x, hx⟩ : ∃ x, l[k]? = some x := ⟨_, List.getElem?_eq_getElem hlt⟩
          obtain ⟨b, off, rfl, c0, c1⟩ := HC.out w (Below.refl _ _) k x hx
          have hxn := (HF.out x (List.mem_of_getElem? hx)).1
          clear hx
          by_cases h6 : 600 < x.name.size
          · go_wp2_with (go_at_call 6; refine (alive_any _ HG.out).mono ?_; rintro e w1 ⟨rfl, hB1⟩)
            go_ret
            exact ⟨rfl, hB1⟩
          · go_wp2_with fail
            exact ⟨⟨k + 1, by omega, by go_num⟩, by simp [intOf]; omega⟩
        · obtain ⟨r, e0, hr⟩ : ∃ r e0, vOf l = (r, e0) := ⟨_, _, rfl⟩
          obtain ⟨q, e1, hq⟩ : ∃ q e1, vParse (nm s) = (q, e1) := ⟨_, _, rfl⟩
          have HR := Lib.hid hr
          have HQ := Lib.hid hq
          have HP := Lib.hid (show vOfP l = (r, e0) by rw [vOf_eq]; exact hr)
          clear hr hq
          go_wp2_with fail
          refine (vof_is _ l r e0 _ HA.out HF.out (by omega) HP.out).mono ?_
          rintro e w1 ⟨v1, rfl, ho1, hB1⟩
          have HV1 := Lib.hid (own_VAt ho1 : VAt w1 v1 r)
          clear ho1
          go_wp2_with fail
          refine (rvof_is _ l r e0 _ (HA.out.below hB1) HF.out HR.out).mono ?_
          rintro e w2 ⟨v2, rfl, ho2, hb2⟩
          have HV2 := Lib.hid (own_VAt ho2 : VAt w2 v2 r)
          have HV1b := Lib.hid (HV1.out.below hb2)
          have hB2 := below_then' hB1 hB1.size hb2
          clear ho2 hb2 HV1 hB1
          go_wp2_with fail
          refine (vparse_is s q e1 _ (by omega) (HG.out.below hB2) HQ.out).mono ?_
          rintro e w3 ⟨v3, rfl, ho3, hb3⟩
          have HV3 := Lib.hid (own_RAt ho3 : RAt w3 v3 q)
          have HV1c := Lib.hid (HV1b.out.below hb3)
          have HV2c := Lib.hid (HV2.out.below hb3)
          have hB3 := below_then' hB2 hB2.size hb3
          clear ho3 hb3 HV1b HV2 hB2
          go_wp2_with fail
          refine (rvparse_is s q e1 _ (by omega) HQ.out).mono ?_
          rintro e w4 ⟨v4, rfl, ho4, hb4⟩
          have HV4 := Lib.hid (own_RAt ho4 : RAt w4 v4 q)
          have HV1d := Lib.hid (HV1c.out.below hb4)
          have HV2d := Lib.hid (HV2c.out.below hb4)
          have HV3d := Lib.hid (HV3.out.below hb4)
          have hB4 := below_then' hB3 hB3.size hb4
          clear ho4 hb4 HV1c HV2c HV3 hB3
          go_wp2_with fail
          refine (rsame_is _ _ r r true _ HV1d.out HV2d.out ((vSame_iff _ _).2 rfl)).mono ?_
          rintro e w5 ⟨rfl, hb5⟩
          have HV3e := Lib.hid (HV3d.out.below hb5)
          have HV4e := Lib.hid (HV4.out.below hb5)
          have hB5 := below_then' hB4 hB4.size hb5
          clear hb5 HV1d HV2d HV3d HV4 hB4
          go_wp2_with fail
          refine (rress_is _ _ q q true _ HV3e.out HV4e.out ((resSame_iff _ _).2 rfl)).mono ?_
          rintro e w6 ⟨rfl, hb6⟩
          have hB6 := below_then' hB5 hB5.size hb6
          clear hb6 HV3e HV4e hB5
          go_wp2_with (go_at_call 6; refine (alive_any _ (HG.out.below hB6)).mono ?_; rintro e w7 ⟨rfl, hb7⟩)
          go_ret
          exact ⟨rfl, below_then' hB6 hB6.size hb7⟩
end Go.Proofs.YtgjlgpaoilaikaaGreatDoor
