/-
  Layer 4: the program's Within; the reference's Same, Resources; the law's Fits.
-/
import Derived.Test.YtgjlgpaoilaikaaGreatDoorV3
namespace Go.Proofs.YtgjlgpaoilaikaaGreatDoor
open Go.RowKit

theorem get_is (va : Value) (xs : List Ent) (name : ByteArray) (n : Int) (w : World) (ha : VAt w va xs) (hn : vGet xs name = n) :
    Calls Tryz.prog 18 #[va, .string name] w fun e w' => e = .returned (.agg #[.int .i64 (wHi n), .int .u64 (wLo n)]) ∧ Below w.heap.size w w' := by rw [← hn]; exact get_any va xs name w ha
theorem wcmp_is (a b c : Int) (w : World) (hc : cmpI a b = c) :
    Calls Tryz.prog 44 #[.agg #[.int .i64 (wHi a), .int .u64 (wLo a)], .agg #[.int .i64 (wHi b), .int .u64 (wLo b)]] w fun e w' => e = .returned (.int .i64 c) ∧ Below w.heap.size w w' := by rw [← hc]; exact wcmp_any a b w
theorem vright_is (va : Value) (xs : List Ent) (r : Bool) (w : World) (ha : VAt w va xs) (hf : VFine xs) (hr : vRight xs = r) :
    Calls Tryz.prog 16 #[va] w fun e w' => e = .returned (.bool r) ∧ Below w.heap.size w w' := by rw [← hr]; exact vright_any va xs w ha hf

/-! ### whether a vector is within another one -/
def vWithinGo (v : List Ent) : List Ent → Bool × ByteArray
  | [] => (true, ⟨#[]⟩)
  | x :: xs => if 0 < cmpI (vGet v x.name) x.n then (false, x.name) else vWithinGo v xs
def vWithin (v h : List Ent) : Bool × ByteArray := if vRight v && vRight h then vWithinGo v h else (false, ⟨#[]⟩)

set_option maxRecDepth 100000 in
set_option maxHeartbeats 2000000 in
theorem within_any (va vb : Value) (xs ys : List Ent) (w : World) (ha : VAt w va xs) (hb : VAt w vb ys) (hfa : VFine xs) (hfb : VFine ys) :
    Calls Tryz.prog 19 #[va, vb] w fun e w' => e = .returned (.tuple #[.bool (vWithin xs ys).1, .string (vWithin xs ys).2]) ∧ Below w.heap.size w w' := by
  obtain ⟨ra, hra⟩ : ∃ r, vRight xs = r := ⟨_, rfl⟩
  obtain ⟨rb, hrb⟩ : ∃ r, vRight ys = r := ⟨_, rfl⟩
  have HA := Lib.hid ha
  have HB := Lib.hid hb
  have HFA := Lib.hid hfa
  have HFB := Lib.hid hfb
  have HRA := Lib.hid hra
  have HRB := Lib.hid hrb
  clear ha hb hfa hfb hra hrb
  have hv : vWithin xs ys = if ra && rb then vWithinGo xs ys else (false, ⟨#[]⟩) := by rw [vWithin, HRA.out, HRB.out]
  cases hab : (ra && rb)
  · rw [hab] at hv
    have HV := Lib.hid (show vWithin xs ys = (false, ⟨#[]⟩) from hv)
    clear hv
    cases ra
    · go_enter Tryz.func19, Tryz.ntmps19
      go_wp2_with (go_at_call 16; refine (vright_is va xs false _ HA.out HFA.out HRA.out).mono ?_; rintro e w1 ⟨rfl, hB1⟩)
      go_ret2
      exact ⟨by rw [HV.out]; rfl, hB1⟩
    · cases rb
      · go_enter Tryz.func19, Tryz.ntmps19
        go_wp2_with (first
          | (go_at_call_of 16 va; refine (vright_is va xs true _ HA.out HFA.out HRA.out).mono ?_; rintro e w1 ⟨rfl, hB1⟩)
          | (go_at_call_of 16 vb; refine (vright_is vb ys false _ (HB.out.below hB1) HFB.out HRB.out).mono ?_; rintro e w2 ⟨rfl, hB2⟩))
        go_ret2
        exact ⟨by rw [HV.out]; rfl, below_then' hB1 hB1.size hB2⟩
      · cases hab
  · rw [hab] at hv
    have HV := Lib.hid (show vWithin xs ys = vWithinGo xs ys from hv)
    clear hv
    obtain ⟨rfl, rfl⟩ : ra = true ∧ rb = true := by simpa using hab
    clear hab
    go_enter Tryz.func19, Tryz.ntmps19
    obtain ⟨A, c, rfl, hlm, hcell⟩ := HB.out.each
    have HC := Lib.hid hcell
    clear hcell
    go_wp2_with (first
      | (go_at_call_of 16 va; refine (vright_is va xs true _ HA.out HFA.out HRA.out).mono ?_; rintro e w1 ⟨rfl, hB1⟩)
      | (go_at_call 16; refine (vright_is _ ys true _ (HB.out.below hB1) HFB.out HRB.out).mono ?_; rintro e w2 ⟨rfl, hB2⟩))
    have hB12 := below_then' hB1 hB1.size hB2
    go_loopw [18] (fun i wr => ∃ k : Nat, k ≤ ys.length ∧ i = .int .i64 k ∧ Hid (vWithinGo xs ys = vWithinGo xs (ys.drop k)) ∧ Below w.heap.size w wr) (fun i _ => ys.length - (intOf i).toNat)
    case atStart => exact ⟨0, by omega, rfl, Lib.hid rfl, hB12⟩
    case round =>
      obtain ⟨k, hk, rfl, hs, hB⟩ := hrel
      have hbs := hB.size
      by_cases hlt : k < ys.length
      · obtain ⟨x, hx⟩ : ∃ x, ys[k]? = some x := ⟨_, List.getElem?_eq_getElem hlt⟩
        obtain ⟨b, off, rfl, c0, c1, c2⟩ := HC.out wr hB k x hx
        have hst : vWithinGo xs (ys.drop k) = if 0 < cmpI (vGet xs x.name) x.n then (false, x.name) else vWithinGo xs (ys.drop (k + 1)) := by
          obtain ⟨h, rfl⟩ := List.getElem?_eq_some_iff.1 hx
          rw [List.drop_eq_getElem_cons h, vWithinGo]
        obtain ⟨g, hg⟩ : ∃ g, vGet xs x.name = g := ⟨_, rfl⟩
        rw [hg] at hst
        obtain ⟨t, ht⟩ : ∃ t, cmpI g x.n = t := ⟨_, rfl⟩
        rw [ht] at hst
        have HST := Lib.hid hst
        have HG := Lib.hid hg
        have HT := Lib.hid ht
        clear hst hg ht hx
        go_upto_region 6 with (fail)
        obtain ⟨W1, hW1, HS, HK, hBn⟩ := box1 wr #[.string x.name, .int .i64 (wHi x.n), .int .u64 (wLo x.n)] 45
        rw [hW1]
        clear hW1
        obtain ⟨e0, e1, e2⟩ := blk3 HK.out
        have hBw1 := below_then' hB hbs hBn
        have hva1 := Lib.hid (HA.out.below hBw1)
        have hsz := HS.out
        clear c0 c1 c2
        have q0 := bw_cell e0
        have q1 := bw_cell e1
        have q2 := bw_cell e2
        clear e0 e1 e2
        go_wp2_with fail
        refine wp_region_bw (by kernel_rfl) (by kernel_rfl) ?_
        repeat (go_big_quiet_step (first
          | (go_at_call 18; exact Calls.bw (get_is va xs x.name g _ (hva1.out.below (Bw.h _)) HG.out))
          | (go_at_call 44; exact Calls.bw (wcmp_is g x.n t _ HT.out))))
        refine wpQuiet_nil ?_
        intro W2 hw'
        obtain ⟨⟨_, hB2⟩, hw''⟩ := hw'
        subst hw''
        have d0 := q0 ⟨W2, hB2⟩
        have hB3 := below_then' hBw1 (by omega) hB2
        clear q0 q1 q2
        by_cases h0 : 0 < t
        · go_wp2_with (go_quiet (fail))
          go_ret2
          exact ⟨by rw [HV.out, hs.out, HST.out, if_pos h0]; rfl, below_drewN' hB3 _⟩
        · go_wp2_with fail
          refine ⟨⟨k + 1, by omega, by go_num, Lib.hid ?_, hB3⟩, by simp [intOf]; omega⟩
          rw [hs.out, HST.out, if_neg h0]
      · have hd : ys.drop k = [] := List.drop_eq_nil_of_le (by omega)
        have HD := Lib.hid hd
        clear hd
        go_wp2_with fail
        go_ret2
        exact ⟨by rw [HV.out, hs.out, HD.out]; rfl, hB⟩

/-! ### sameness -/
def entB (x y : Ent) : Bool := nm x.name == nm y.name && decide (x.n = y.n)
def vSame : List Ent → List Ent → Bool
  | [], [] => true
  | x :: xs, y :: ys => entB x y && vSame xs ys
  | _, _ => false
theorem entB_iff (x y : Ent) : entB x y = true ↔ x = y := by
  obtain ⟨a, b⟩ := x
  obtain ⟨c, d⟩ := y
  simp only [entB, Bool.and_eq_true, beq_iff_eq, decide_eq_true_eq, Ent.mk.injEq]
  exact ⟨fun h => ⟨nm_inj h.1, h.2⟩, fun h => ⟨by rw [h.1], h.2⟩⟩
theorem vSame_iff : ∀ xs ys, vSame xs ys = true ↔ xs = ys
  | [], [] => by simp [vSame]
  | [], y :: ys => by simp [vSame]
  | x :: xs, [] => by simp [vSame]
  | x :: xs, y :: ys => by simp only [vSame, Bool.and_eq_true, entB_iff, vSame_iff xs ys, List.cons.injEq]
theorem vSame_len {xs ys : List Ent} (h : xs.length ≠ ys.length) : vSame xs ys = false := by
  rw [← Bool.not_eq_true, vSame_iff]
  rintro rfl
  exact h rfl
theorem vSame_step {xs ys : List Ent} {k : Nat} {x y : Ent} (hx : xs[k]? = some x) (hy : ys[k]? = some y) : vSame (xs.drop k) (ys.drop k) = (entB x y && vSame (xs.drop (k + 1)) (ys.drop (k + 1))) := by
  obtain ⟨h, rfl⟩ := List.getElem?_eq_some_iff.1 hx
  obtain ⟨h', rfl⟩ := List.getElem?_eq_some_iff.1 hy
  rw [List.drop_eq_getElem_cons h, List.drop_eq_getElem_cons h', vSame]
theorem entB_w (x y : Ent) : (x.name.toList == y.name.toList && (wHi x.n == wHi y.n && (wLo x.n == wLo y.n))) = entB x y := by
  have h : (wHi x.n == wHi y.n && (wLo x.n == wLo y.n)) = decide (x.n = y.n) := by
    rw [Bool.eq_iff_iff]
    simp only [Bool.and_eq_true, beq_iff_eq, decide_eq_true_eq]
    exact ⟨fun h => by rw [w_eq x.n, w_eq y.n, h.1, h.2], fun h => by rw [h]; exact ⟨rfl, rfl⟩⟩
  rw [h, nm_toList, nm_toList, entB]

section
attribute [local go_sem high] eq_entry
set_option maxRecDepth 100000 in
set_option maxHeartbeats 2000000 in
theorem rsame_any (va vb : Value) (xs ys : List Ent) (w : World) (ha : VAt w va xs) (hb : VAt w vb ys) :
    Calls Tryz.prog 11 #[va, vb] w fun e w' => e = .returned (.bool (vSame xs ys)) ∧ Below w.heap.size w w' := by
  obtain ⟨A, c, rfl, hlm, hcell⟩ := ha.each
  obtain ⟨A2, c2, rfl, hlm2, hcell2⟩ := hb.each
  have HC := Lib.hid hcell
  have HC2 := Lib.hid hcell2
  clear hcell hcell2 ha hb
  by_cases hl : xs.length = ys.length
  · have hli : ((xs.length : Int) == (ys.length : Int)) = true := by simp [hl]
    go_enter Tryz.func11, Tryz.ntmps11
    go_wp2_with fail
    go_loopw [5] (fun i wr => ∃ k : Nat, k ≤ xs.length ∧ i = .int .i64 k ∧ Hid (vSame xs ys = vSame (xs.drop k) (ys.drop k)) ∧ Below w.heap.size w wr) (fun i _ => xs.length - (intOf i).toNat)
    case atStart => exact ⟨0, by omega, rfl, Lib.hid rfl, Below.refl _ _⟩
    case round =>
      obtain ⟨k, hk, rfl, hs, hB⟩ := hrel
      by_cases hlt : k < xs.length
      · have hlt2 : k < ys.length := by omega
        obtain ⟨x, hx⟩ : ∃ x, xs[k]? = some x := ⟨_, List.getElem?_eq_getElem hlt⟩
        obtain ⟨y, hy⟩ : ∃ y, ys[k]? = some y := ⟨_, List.getElem?_eq_getElem hlt2⟩
        obtain ⟨b, off, rfl, c0, c1, c2⟩ := HC.out wr hB k x hx
        obtain ⟨b2, off2, rfl, d0, d1, d2⟩ := HC2.out wr hB k y hy
        have hst := vSame_step hx hy
        obtain ⟨t, ht⟩ : ∃ t, entB x y = t := ⟨_, rfl⟩
        have hq := entB_w x y
        rw [ht] at hst hq
        have HST := Lib.hid hst
        clear hst ht hx hy
        cases t
        all_goals go_wp2_with (go_quiet (fail))
        · go_ret
          exact ⟨ret_bool (by rw [hs.out, HST.out]; rfl), below_drewN' hB _⟩
        · refine ⟨⟨k + 1, by omega, by go_num, Lib.hid ?_, below_drewN' hB _⟩, by simp [intOf]; omega⟩
          rw [hs.out, HST.out]; rfl
      · have hd : vSame (xs.drop k) (ys.drop k) = true := by rw [List.drop_eq_nil_of_le (by omega), List.drop_eq_nil_of_le (by omega)]; rfl
        have HD := Lib.hid hd
        clear hd
        go_wp2_with fail
        go_ret
        exact ⟨ret_bool (by rw [hs.out, HD.out]), hB⟩
  · have hli : ((xs.length : Int) == (ys.length : Int)) = false := by simp; omega
    have HV := Lib.hid (vSame_len hl)
    clear hl
    go_enter Tryz.func11, Tryz.ntmps11
    go_wp2_with fail
    go_ret
    exact ⟨ret_bool HV.out.symm, Below.refl _ _⟩
end
end Go.Proofs.YtgjlgpaoilaikaaGreatDoor
