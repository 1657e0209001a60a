/-
  Layer 4: the program's Same, by slices.Equal; Fits, by slices.ContainsFunc; the reference's Resources; the law's Fits.
-/
import Derived.Test.YtgjlgpaoilaikaaGreatDoorV3b
namespace Go.Proofs.YtgjlgpaoilaikaaGreatDoor
open Go.RowKit

section
attribute [local go_sem high] eq_entry
set_option maxRecDepth 100000 in
set_option maxHeartbeats 2000000 in
theorem sleq_any (va vb : Value) (xs ys : List Ent) (w : World) (ha : VAt w va xs) (hb : VAt w vb ys) :
    Calls Tryz.prog 50 #[va, vb] w fun e w' => e = .returned (.bool (vSame xs ys)) ∧ Below w.heap.size w w' := by
  obtain ⟨A, c, rfl, hlm, hcell⟩ := ha.each
  obtain ⟨A2, c2, rfl, hlm2, hcell2⟩ := hb.each
  have HC := Lib.hid hcell
  have HC2 := Lib.hid hcell2
  clear hcell hcell2 ha hb
  by_cases hl : xs.length = ys.length
  · have hli : ((xs.length : Int) == (ys.length : Int)) = true := by simp [hl]
    go_enter Tryz.func50, Tryz.ntmps50
    go_wp2_with fail
    go_loopw [13] (fun i wr => ∃ k : Nat, k ≤ xs.length ∧ i = .int .i64 k ∧ Hid (vSame xs ys = vSame (xs.drop k) (ys.drop k)) ∧ Below w.heap.size w wr) (fun i _ => xs.length - (intOf i).toNat)
    case atStart => exact ⟨0, by omega, rfl, Lib.hid rfl, Below.refl _ _⟩
    case round =>
      obtain ⟨k, hk, rfl, hs, hB⟩ := hrel
      by_cases hlt : k < xs.length
      · have hlt2 : k < ys.length := by omega
        obtain ⟨x, hx⟩ : ∃ x, xs[k]? = some x := ⟨_, List.getElem?_eq_getElem hlt⟩
        obtain ⟨y, hy⟩ : ∃ y, ys[k]? = some y := ⟨_, List.getElem?_eq_getElem hlt2⟩
        obtain ⟨b, off, rfl, c0, c1, c2⟩ := HC.out wr hB k x hx
        obtain ⟨b2, off2, rfl, d0, d1, d2⟩ := HC2.out wr hB k y hy
        have hst := vSame_step hx hy
        obtain ⟨t, ht⟩ : ∃ t, entB x y = t := ⟨_, rfl⟩
        have hq := entB_w x y
        rw [ht] at hst hq
        have HST := Lib.hid hst
        clear hst ht hx hy
        cases t
        all_goals go_wp2_with (go_quiet (fail))
        · go_ret
          exact ⟨ret_bool (by rw [hs.out, HST.out]; rfl), below_drewN' hB _⟩
        · refine ⟨⟨k + 1, by omega, by go_num, Lib.hid ?_, below_drewN' hB _⟩, by simp [intOf]; omega⟩
          rw [hs.out, HST.out]; rfl
      · have hd : vSame (xs.drop k) (ys.drop k) = true := by rw [List.drop_eq_nil_of_le (by omega), List.drop_eq_nil_of_le (by omega)]; rfl
        have HD := Lib.hid hd
        clear hd
        go_wp2_with fail
        go_ret
        exact ⟨ret_bool (by rw [hs.out, HD.out]), hB⟩
  · have hli : ((xs.length : Int) == (ys.length : Int)) = false := by simp; omega
    have HV := Lib.hid (vSame_len hl)
    clear hl
    go_enter Tryz.func50, Tryz.ntmps50
    go_wp2_with fail
    go_ret
    exact ⟨ret_bool HV.out.symm, Below.refl _ _⟩
end
set_option maxRecDepth 100000 in
theorem same_any (va vb : Value) (xs ys : List Ent) (w : World) (ha : VAt w va xs) (hb : VAt w vb ys) :
    Calls Tryz.prog 23 #[va, vb] w fun e w' => e = .returned (.bool (vSame xs ys)) ∧ Below w.heap.size w w' := by
  have HA := Lib.hid ha
  have HB := Lib.hid hb
  clear ha hb
  go_enter Tryz.func23, Tryz.ntmps23
  go_wp2_with (go_at_call 50; refine (sleq_any va vb xs ys _ HA.out HB.out).mono ?_; rintro e w1 ⟨rfl, hB1⟩)
  go_ret
  exact ⟨rfl, hB1⟩

/-! ### lists of resources -/
def resB (x y : Res) : Bool := nm x.name == nm y.name && decide (x.n = y.n)
def resSame : List Res → List Res → Bool
  | [], [] => true
  | x :: xs, y :: ys => resB x y && resSame xs ys
  | _, _ => false
theorem resB_iff (x y : Res) : resB x y = true ↔ x = y := by
  obtain ⟨a, b⟩ := x
  obtain ⟨c, d⟩ := y
  simp only [resB, Bool.and_eq_true, beq_iff_eq, decide_eq_true_eq, Res.mk.injEq]
  exact ⟨fun h => ⟨nm_inj h.1, h.2⟩, fun h => ⟨by rw [h.1], h.2⟩⟩
theorem resSame_iff : ∀ xs ys, resSame xs ys = true ↔ xs = ys
  | [], [] => by simp [resSame]
  | [], y :: ys => by simp [resSame]
  | x :: xs, [] => by simp [resSame]
  | x :: xs, y :: ys => by simp only [resSame, Bool.and_eq_true, resB_iff, resSame_iff xs ys, List.cons.injEq]
theorem resSame_len {xs ys : List Res} (h : xs.length ≠ ys.length) : resSame xs ys = false := by
  rw [← Bool.not_eq_true, resSame_iff]
  rintro rfl
  exact h rfl
theorem resSame_step {xs ys : List Res} {k : Nat} {x y : Res} (hx : xs[k]? = some x) (hy : ys[k]? = some y) : resSame (xs.drop k) (ys.drop k) = (resB x y && resSame (xs.drop (k + 1)) (ys.drop (k + 1))) := by
  obtain ⟨h, rfl⟩ := List.getElem?_eq_some_iff.1 hx
  obtain ⟨h', rfl⟩ := List.getElem?_eq_some_iff.1 hy
  rw [List.drop_eq_getElem_cons h, List.drop_eq_getElem_cons h', resSame]
theorem resB_w (x y : Res) : (x.name.toList == y.name.toList && (x.n == y.n)) = resB x y := by
  rw [nm_toList, nm_toList, resB]; rfl

section
attribute [local go_sem high] eq_resource
set_option maxRecDepth 100000 in
set_option maxHeartbeats 2000000 in
theorem rress_any (va vb : Value) (xs ys : List Res) (w : World) (ha : RAt w va xs) (hb : RAt w vb ys) :
    Calls Tryz.prog 12 #[va, vb] w fun e w' => e = .returned (.bool (resSame xs ys)) ∧ Below w.heap.size w w' := by
  obtain ⟨A, c, rfl, hlm, hcell⟩ := ha.each
  obtain ⟨A2, c2, rfl, hlm2, hcell2⟩ := hb.each
  have HC := Lib.hid hcell
  have HC2 := Lib.hid hcell2
  clear hcell hcell2 ha hb
  by_cases hl : xs.length = ys.length
  · have hli : ((xs.length : Int) == (ys.length : Int)) = true := by simp [hl]
    go_enter Tryz.func12, Tryz.ntmps12
    go_wp2_with fail
    go_loopw [5] (fun i wr => ∃ k : Nat, k ≤ xs.length ∧ i = .int .i64 k ∧ Hid (resSame xs ys = resSame (xs.drop k) (ys.drop k)) ∧ Below w.heap.size w wr) (fun i _ => xs.length - (intOf i).toNat)
    case atStart => exact ⟨0, by omega, rfl, Lib.hid rfl, Below.refl _ _⟩
    case round =>
      obtain ⟨k, hk, rfl, hs, hB⟩ := hrel
      by_cases hlt : k < xs.length
      · have hlt2 : k < ys.length := by omega
        obtain ⟨x, hx⟩ : ∃ x, xs[k]? = some x := ⟨_, List.getElem?_eq_getElem hlt⟩
        obtain ⟨y, hy⟩ : ∃ y, ys[k]? = some y := ⟨_, List.getElem?_eq_getElem hlt2⟩
        obtain ⟨b, off, rfl, c0, c1⟩ := HC.out wr hB k x hx
        obtain ⟨b2, off2, rfl, d0, d1⟩ := HC2.out wr hB k y hy
        have hst := resSame_step hx hy
        obtain ⟨t, ht⟩ : ∃ t, resB x y = t := ⟨_, rfl⟩
        have hq := resB_w x y
        rw [ht] at hst hq
        have HST := Lib.hid hst
        clear hst ht hx hy
        cases t
        all_goals go_wp2_with (go_quiet (fail))
        · go_ret
          exact ⟨ret_bool (by rw [hs.out, HST.out]; rfl), below_drewN' hB _⟩
        · refine ⟨⟨k + 1, by omega, by go_num, Lib.hid ?_, below_drewN' hB _⟩, by simp [intOf]; omega⟩
          rw [hs.out, HST.out]; rfl
      · have hd : resSame (xs.drop k) (ys.drop k) = true := by rw [List.drop_eq_nil_of_le (by omega), List.drop_eq_nil_of_le (by omega)]; rfl
        have HD := Lib.hid hd
        clear hd
        go_wp2_with fail
        go_ret
        exact ⟨ret_bool (by rw [hs.out, HD.out]), hB⟩
  · have hli : ((xs.length : Int) == (ys.length : Int)) = false := by simp; omega
    have HV := Lib.hid (resSame_len hl)
    clear hl
    go_enter Tryz.func12, Tryz.ntmps12
    go_wp2_with fail
    go_ret
    exact ⟨ret_bool HV.out.symm, Below.refl _ _⟩
end
/-! ### the program's Fits -/
def vFits (xs : List Ent) : Bool := vRight xs && xs.all (fun x => fitsB x.n)
theorem fits_is (n : Int) (r : Bool) (w : World) (hr : fitsB n = r) :
    Calls Tryz.prog 48 #[.agg #[.int .i64 (wHi n), .int .u64 (wLo n)]] w fun e w' => ∃ m, e = .returned (.tuple #[.int .i64 m, .bool r]) ∧ Below w.heap.size w w' := by rw [← hr]; exact (wfits_any n w).mono fun e w' h => ⟨_, h⟩
set_option maxRecDepth 100000 in
theorem wrong_any (x : Ent) (r : Bool) (w : World) (hr : fitsB x.n = r) :
    Calls Tryz.prog 47 #[.agg #[.string x.name, .int .i64 (wHi x.n), .int .u64 (wLo x.n)]] w fun e w' => e = .returned (.bool (!r)) ∧ Below w.heap.size w w' := by
  have HR := Lib.hid hr
  clear hr
  go_enter Tryz.func47, Tryz.ntmps47
  go_wp2_with (go_at_call 48; refine (fits_is x.n r _ HR.out).mono ?_; rintro e w1 ⟨m, rfl, hB1⟩)
  go_ret
  exact ⟨rfl, below_then' ((Below.refl _ _).alloc (Nat.le_refl _) _) (by simp) hB1⟩
set_option maxRecDepth 100000 in
set_option maxHeartbeats 1000000 in
theorem slix_any (va : Value) (xs : List Ent) (w : World) (ha : VAt w va xs) :
    Calls Tryz.prog 72 #[va, .func (.func 47) #[] #[]] w fun e w' => ∃ i : Int, e = .returned (.int .i64 i) ∧ (0 ≤ i ↔ xs.all (fun x => fitsB x.n) = false) ∧ Below w.heap.size w w' := by
  obtain ⟨A, c, rfl, hlm, hcell⟩ := ha.each
  have HC := Lib.hid hcell
  clear hcell ha
  go_enter Tryz.func72, Tryz.ntmps72
  go_wp2_with fail
  go_loopw [8] (fun i wr => ∃ k : Nat, k ≤ xs.length ∧ i = .int .i64 k ∧ Hid (xs.all (fun x => fitsB x.n) = (xs.drop k).all (fun x => fitsB x.n)) ∧ Below w.heap.size w wr) (fun i _ => xs.length - (intOf i).toNat)
  case atStart => exact ⟨0, by omega, rfl, Lib.hid rfl, Below.refl _ _⟩
  case round =>
    obtain ⟨k, hk, rfl, hs, hB⟩ := hrel
    have hbs := hB.size
    by_cases hlt : k < xs.length
    · obtain ⟨x, hx⟩ : ∃ x, xs[k]? = some x := ⟨_, List.getElem?_eq_getElem hlt⟩
      obtain ⟨b, off, rfl, c0, c1, c2⟩ := HC.out wr hB k x hx
      have hst : (xs.drop k).all (fun x => fitsB x.n) = (fitsB x.n && (xs.drop (k + 1)).all (fun x => fitsB x.n)) := by
        obtain ⟨h, rfl⟩ := List.getElem?_eq_some_iff.1 hx
        rw [List.drop_eq_getElem_cons h, List.all_cons]
      obtain ⟨t, ht⟩ : ∃ t, fitsB x.n = t := ⟨_, rfl⟩
      rw [ht] at hst
      have HST := Lib.hid hst
      have HT := Lib.hid ht
      clear hst ht hx
      cases t
      all_goals go_wp2_with (go_at_call 47; refine (wrong_any x _ _ HT.out).mono ?_; rintro e w1 ⟨rfl, hB1⟩)
      · go_ret
        exact ⟨k, rfl, by rw [hs.out, HST.out]; simp, below_then' hB hbs hB1⟩
      · refine ⟨⟨k + 1, by omega, by go_num, Lib.hid ?_, below_then' hB hbs hB1⟩, by simp [intOf]; omega⟩
        rw [hs.out, HST.out]; rfl
    · have hd : xs.drop k = [] := List.drop_eq_nil_of_le (by omega)
      have HD := Lib.hid hd
      clear hd
      go_wp2_with fail
      go_ret
      exact ⟨-1, rfl, by rw [hs.out, HD.out]; simp, hB⟩
set_option maxRecDepth 100000 in
theorem slcf_any (va : Value) (xs : List Ent) (w : World) (ha : VAt w va xs) :
    Calls Tryz.prog 49 #[va, .func (.func 47) #[] #[]] w fun e w' => e = .returned (.bool (!xs.all (fun x => fitsB x.n))) ∧ Below w.heap.size w w' := by
  have HA := Lib.hid ha
  clear ha
  go_enter Tryz.func49, Tryz.ntmps49
  go_wp2_with (go_at_call 72; refine (slix_any va xs _ HA.out).mono ?_; rintro e w1 ⟨i, rfl, hi, hB1⟩; have HI := Lib.hid hi; clear hi)
  go_ret
  refine ⟨ret_bool ?_, hB1⟩
  have := HI.out
  rw [Bool.eq_iff_iff]
  simp only [decide_eq_true_eq, Bool.not_eq_true']
  exact this
set_option maxRecDepth 100000 in
set_option maxHeartbeats 1000000 in
theorem vfits_any (va : Value) (xs : List Ent) (w : World) (ha : VAt w va xs) (hf : VFine xs) :
    Calls Tryz.prog 22 #[va] w fun e w' => e = .returned (.bool (vFits xs)) ∧ Below w.heap.size w w' := by
  obtain ⟨r, hr⟩ : ∃ r, vRight xs = r := ⟨_, rfl⟩
  have HV := Lib.hid (show vFits xs = (r && xs.all (fun x => fitsB x.n)) by rw [vFits, hr])
  have HA := Lib.hid ha
  have HF := Lib.hid hf
  have HR := Lib.hid hr
  clear ha hf hr
  cases r
  all_goals
    go_enter Tryz.func22, Tryz.ntmps22
    go_wp2_with (first
      | (go_at_call 16; refine (vright_is va xs _ _ HA.out HF.out HR.out).mono ?_; rintro e w1 ⟨rfl, hB1⟩)
      | (go_at_call 49; refine (slcf_any va xs _ (HA.out.below hB1)).mono ?_; rintro e w2 ⟨rfl, hB2⟩))
    go_ret
  · exact ⟨ret_bool (by rw [HV.out]; rfl), hB1⟩
  · exact ⟨ret_bool (by rw [HV.out]; simp), below_then' hB1 hB1.size hB2⟩
/-! ### the law's Fits -/
def lawFit (xs : List Ent) : Bool := decide (xs.length ≤ 40) && xs.all (fun x => decide (x.name.size ≤ 600))
set_option maxRecDepth 100000 in
set_option maxHeartbeats 1000000 in
theorem lfits_any (va : Value) (xs : List Ent) (w : World) (ha : VAt w va xs) :
    Calls Tryz.prog 13 #[va] w fun e w' => e = .returned (.bool (lawFit xs)) ∧ w = w' := by
  obtain ⟨A, c, rfl, hlm, hcell⟩ := ha.each
  have HC := Lib.hid hcell
  clear hcell ha
  by_cases h40 : 40 < xs.length
  · have HV := Lib.hid (show lawFit xs = false by simp [lawFit]; omega)
    go_enter Tryz.func13, Tryz.ntmps13
    go_wp2_with fail
    go_ret
    exact ⟨ret_bool HV.out.symm, rfl⟩
  · have HV := Lib.hid (show lawFit xs = xs.all (fun x => decide (x.name.size ≤ 600)) by simp [lawFit]; omega)
    go_enter Tryz.func13, Tryz.ntmps13
    go_wp2_with fail
    go_loopw [3] (fun i wr => ∃ k : Nat, k ≤ xs.length ∧ i = .int .i64 k ∧ Hid (xs.all (fun x => decide (x.name.size ≤ 600)) = (xs.drop k).all (fun x => decide (x.name.size ≤ 600))) ∧ w = wr) (fun i _ => xs.length - (intOf i).toNat)
    case atStart => exact ⟨0, by omega, rfl, Lib.hid rfl, rfl⟩
    case round =>
      obtain ⟨k, hk, rfl, hs, rfl⟩ := hrel
      by_cases hlt : k < xs.length
      · obtain ⟨x, hx⟩ : ∃ x, xs[k]? = some x := ⟨_, List.getElem?_eq_getElem hlt⟩
        obtain ⟨b, off, rfl, c0, c1, c2⟩ := HC.out w (Below.refl _ _) k x hx
        have hst : (xs.drop k).all (fun x => decide (x.name.size ≤ 600)) = (decide (x.name.size ≤ 600) && (xs.drop (k + 1)).all (fun x => decide (x.name.size ≤ 600))) := by
          obtain ⟨h, rfl⟩ := List.getElem?_eq_some_iff.1 hx
          rw [List.drop_eq_getElem_cons h, List.all_cons]
        have HST := Lib.hid hst
        clear hst hx
        by_cases hx6 : 600 < x.name.size
        · go_wp2_with fail
          go_ret
          exact ⟨ret_bool (by rw [HV.out, hs.out, HST.out]; simp; omega), rfl⟩
        · go_wp2_with fail
          refine ⟨⟨k + 1, by omega, by go_num, Lib.hid ?_, trivial⟩, by simp [intOf]; omega⟩
          rw [hs.out, HST.out]; simp; omega
      · have hd : xs.drop k = [] := List.drop_eq_nil_of_le (by omega)
        have HD := Lib.hid hd
        clear hd
        go_wp2_with fail
        go_ret
        exact ⟨ret_bool (by rw [HV.out, hs.out, HD.out]; rfl), rfl⟩
end Go.Proofs.YtgjlgpaoilaikaaGreatDoor
