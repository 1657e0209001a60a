/-
  Layer 4: the text of a vector.
-/
import Derived.Test.YtgjlgpaoilaikaaGreatDoorT1
import Derived.Test.YtgjlgpaoilaikaaGreatDoorQT
import Derived.Test.YtgjlgpaoilaikaaGreatDoorV4
import Derived.Test.YtgjlgpaoilaikaaGreatDoorShelf
namespace Go.Proofs.YtgjlgpaoilaikaaGreatDoor
open Go.RowKit Go.Maps Go.Sort

theorem dig_len : ∀ (k m : Nat), 1 ≤ k → m < 10 ^ k → (dig m).length ≤ k
  | 0, _, h, _ => by omega
  | k + 1, m, _, h => by
    rw [dig_step, List.length_append, List.length_singleton, digP]
    by_cases h0 : m / 10 = 0
    · rw [if_pos h0]; simp
    · rw [if_neg h0]
      have h1 : m / 10 < 10 ^ k := by
        rw [Nat.pow_succ] at h
        omega
      have hk : 1 ≤ k := by
        rcases Nat.eq_zero_or_pos k with e | e
        · subst e
          simp at h1
          omega
        · exact e
      have := dig_len k (m / 10) hk h1
      omega
theorem wText_len (n : Int) (h0 : -18446744073709551616 < n) (h1 : n < 18446744073709551616) : (wText n).length ≤ 21 := by
  have h2 : (10 : Nat) ^ 20 = 100000000000000000000 := by decide
  have := dig_len 20 n.natAbs (by omega) (by omega)
  unfold wText
  split
  · rw [List.length_cons]; omega
  · omega
def eText (x : Ent) : List UInt8 := nm x.name ++ 61 :: wText x.n
def vTextL (xs : List Ent) : List UInt8 := Lib.join (xs.map eText) [44]
def vText (xs : List Ent) : List UInt8 := if vRight xs then vTextL xs else []
def Small (xs : List Ent) : Prop := ∀ x ∈ xs, -18446744073709551616 < x.n ∧ x.n < 18446744073709551616
theorem vRightGo_lbl : ∀ (xs : List Ent) (p : Option ByteArray), vRightGo p xs = true → ∀ x ∈ xs, lblB x.name = true
  | [], _, _, _, h => by cases h
  | y :: ys, p, h, x, hx => by
    rw [vRightGo] at h
    simp only [Bool.and_eq_true] at h
    rcases List.mem_cons.1 hx with rfl | hx
    · exact h.1.1.1
    · exact vRightGo_lbl ys _ h.2 x hx
theorem lbl_size {s : ByteArray} (h : lblB s = true) : 1 ≤ s.size ∧ s.size ≤ 24 := by
  unfold lblB at h
  simp only [Bool.and_eq_true, decide_eq_true_eq] at h
  exact ⟨h.1.1.1.1, h.1.1.1.2⟩
theorem join_len (sep : List UInt8) (b : Nat) : ∀ xs : List (List UInt8), (∀ x ∈ xs, x.length ≤ b) → (Lib.join xs sep).length ≤ xs.length * (b + sep.length)
  | [], _ => by simp [Lib.join]
  | [x], h => by
    have := h x (by simp)
    simp [Lib.join]
    omega
  | x :: y :: xs, h => by
    have h1 := h x (by simp)
    have h2 := join_len sep b (y :: xs) (fun z hz => h z (by simp [hz]))
    have e : Lib.join (x :: y :: xs) sep = x ++ sep ++ Lib.join (y :: xs) sep := by simp [Lib.join, List.intercalate, List.intersperse]
    rw [e, List.length_append, List.length_append, List.length_cons, Nat.add_mul]
    omega
theorem wtext_is (n : Int) (t : ByteArray) (w : World) (h0 : -18446744073709551616 < n) (h1 : n < 18446744073709551616) (ht : (⟨(wText n).toArray⟩ : ByteArray) = t) :
    Calls Tryz.prog 45 #[.agg #[.int .i64 (wHi n), .int .u64 (wLo n)]] w fun e w' => e = .returned (.string t) ∧ Below w.heap.size w w' := by rw [← ht]; exact wtext_any n w h0 h1
theorem infoStr : (Tryz.prog.info? 9).map (fun i => (i.zero, i.size, i.bytes)) = some (some (.string ⟨#[]⟩), 1, 16) := by kernel_rfl

set_option maxRecDepth 100000 in
set_option maxHeartbeats 1000000 in
theorem vtext_any (va : Value) (xs : List Ent) (w : World) (ha : VAt w va xs) (hf : VFine xs) (hsm : Small xs) (hl : xs.length ≤ 100000000) :
    Calls Tryz.prog 21 #[va] w fun e w' => e = .returned (.string (ba (vText xs))) ∧ Below w.heap.size w w' := by
  obtain ⟨r, hr⟩ : ∃ r, vRight xs = r := ⟨_, rfl⟩
  have HA := Lib.hid ha
  have HF := Lib.hid hf
  have HR := Lib.hid hr
  cases r
  · have HV := Lib.hid (show vText xs = [] by simp [vText, hr])
    clear ha hf hr hsm
    go_enter Tryz.func21, Tryz.ntmps21
    go_wp2_with (go_at_call 16; refine (vright_is va xs _ _ HA.out HF.out HR.out).mono ?_; rintro e w1 ⟨rfl, hB1⟩)
    go_ret
    exact ⟨by rw [HV.out]; rfl, hB1⟩
  · have HV := Lib.hid (show vText xs = vTextL xs by simp [vText, hr])
    have hlb := vRightGo_lbl xs none hr
    have HLB := Lib.hid hlb
    have HSM := Lib.hid hsm
    obtain ⟨A, c, rfl, hlm, hcell⟩ := ha.each
    have HC := Lib.hid hcell
    clear ha hf hr hsm hlb hcell
    go_enter Tryz.func21, Tryz.ntmps21
    go_wp2_with (go_at_call 16; refine (vright_is _ xs _ _ HA.out HF.out HR.out).mono ?_; rintro e w1 ⟨rfl, hB1⟩)
    have hs1 := hB1.size
    go_loopw [3, 11] (fun v i wr => ∃ k : Nat, k ≤ xs.length ∧ i = .int .i64 k ∧ wr.ownsRow w1.heap.size 9 1 v k ((xs.take k).map fun x => .string (ba (eText x))) ∧ Below w1.heap.size w1 wr) (fun _ i _ => xs.length - (intOf i).toNat)
    case atStart => exact ⟨0, by omega, rfl, own_nil' _ _ _ _, Below.refl _ _⟩
    case round =>
      obtain ⟨k, hk, rfl, hown, hB⟩ := hrel
      have hbs := hB.size
      have hBw := below_then' hB1 hs1 hB
      by_cases hlt : k < xs.length
      · obtain ⟨x, hx⟩ : ∃ x, xs[k]? = some x := ⟨_, List.getElem?_eq_getElem hlt⟩
        obtain ⟨b, off, rfl, c0, c1, c2⟩ := HC.out wr hBw k x hx
        have hxm := List.mem_of_getElem? hx
        have hsx := HSM.out x hxm
        have hnx := lbl_size (HLB.out x hxm)
        have htl := wText_len x.n hsx.1 hsx.2
        obtain ⟨t, ht⟩ : ∃ t : ByteArray, (⟨(wText x.n).toArray⟩ : ByteArray) = t := ⟨_, rfl⟩
        have hts : (t.size : Int) ≤ 8388608 := by
          rw [← ht]
          show (((wText x.n).length : Nat) : Int) ≤ 8388608
          omega
        have hns : (x.name.size : Int) ≤ 8388608 := by omega
        have hst : xs.take (k + 1) = xs.take k ++ [x] := by rw [List.take_add_one, hx]; rfl
        have HT := Lib.hid ht
        have HST := Lib.hid hst
        have HSX := Lib.hid hsx
        clear hx hxm hsx hnx htl ht hst
        go_upto_region 7 with (fail)
        obtain ⟨W1, hW1, HS, HK, hBn⟩ := box1 wr #[.string x.name, .int .i64 (wHi x.n), .int .u64 (wLo x.n)] 45
        rw [hW1]
        clear hW1
        obtain ⟨e0, e1, e2⟩ := blk3 HK.out
        have hsz := HS.out
        have HOWN := Lib.hid hown
        have HNE := Lib.hid (own_lt' hown)
        have HBB := Lib.hid (show ∀ u, Below W1.heap.size W1 u → Below wr.heap.size wr u ∧ Below w1.heap.size w1 u ∧ w1.heap.size ≤ u.heap.size from fun u hu => by
          have h1 := below_then' hBn (by omega) hu
          have h2 := below_then' hB hbs h1
          exact ⟨h1, h2, h2.size⟩)
        clear c0 c1 c2 hown
        go_wp2_with fail
        go_region_held_law (fun w' => w'.cell? ⟨wr.heap.size, 0, none⟩ = some (.string x.name) ∧ w'.cell? ⟨wr.heap.size, 1, none⟩ = some (.int .i64 (wHi x.n)) ∧ w'.cell? ⟨wr.heap.size, 2, none⟩ = some (.int .u64 (wLo x.n)))
          (((try dsimp only); (try go_split_ands); (repeat' apply And.intro) <;> first | assumption | (apply keep_cell <;> assumption) | (apply keep_cellD <;> assumption) | (refine keep_grown hg5 HNE.out (Nat.le_refl _) (keep_cell hu2 ?_); assumption) | (go_keep; done)))
          (first
            | (go_at_call 45; refine (wtext_is x.n t _ HSX.out.1 HSX.out.2 HT.out).mono ?_; rintro e w2 ⟨rfl, hB2⟩; have hu2 := below_undrew hB2; have hk := HBB.out w2 hu2)
            | (refine step_app_own (w0 := w1) w1.heap.size rfl (.tmp 15) (.tmp 23) 60 9 (.string ⟨#[]⟩) 1 16 rfl Tryz.underlying60 infoStr rfl (by decide) (by decide) _ k _ [_] rfl rfl rfl (by simp [Value.oneCell']) (own_below' HOWN.out hk.1) hk.2.1 hk.2.2 (by omega) ?_; intro v5 w5 hown5 hB5 hg5 hloc5 hsz5))
        all_goals
          go_wp2_with fail
          refine ⟨⟨k + 1, by omega, by go_num, ?_, hB5⟩, by simp [intOf]; omega⟩
          have e1 : x.name ++ ⟨#[61]⟩ ++ t = ba (eText x) := nm_inj (by rw [nm_app, nm_app, nm_ba, ← HT.out]; simp [eText, nm])
          rw [e1] at hown5
          rw [HST.out, List.map_append]
          exact hown5
      · have hkl : k = xs.length := by omega
        have htk : xs.take k = xs := List.take_of_length_le (by omega)
        rw [htk] at hown
        have HKL := Lib.hid hkl
        have hre : SlAt (K1 fun x : Ent => .string (ba (eText x))) 1 wr _ xs := own_slAt1 (by rw [← hkl]; exact hown)
        have hjl : (Lib.join ((xs.map fun x => ba (eText x)).map (·.data.toList)) [44]).length ≤ 140737488355328 := by
          have h1 := join_len [44] 60 ((xs.map fun x => ba (eText x)).map (·.data.toList)) (fun y hy => by
            obtain ⟨z, hz, rfl⟩ := List.mem_map.1 hy
            obtain ⟨x, hx, rfl⟩ := List.mem_map.1 hz
            have h2 := (lbl_size (HLB.out x hx)).2
            have h3 := wText_len x.n (HSM.out x hx).1 (HSM.out x hx).2
            show (eText x).length ≤ 60
            unfold eText
            rw [List.length_append, show (nm x.name).length = x.name.size from size_data _, List.length_cons]
            omega)
          simp only [List.length_map, List.length_singleton] at h1
          omega
        have hje : Lib.join ((xs.map fun x => ba (eText x)).map (·.data.toList)) [44] = vTextL xs := by
          unfold vTextL
          rw [List.map_map]
          rfl
        have HJL := Lib.hid hjl
        have HJE := Lib.hid hje
        clear hjl hje hkl htk
        rcases Nat.eq_zero_or_pos xs.length with h0 | hp
        · obtain ⟨A1, c1, rfl, _⟩ := hre.form
          have hx0 : xs = [] := List.eq_nil_of_length_eq_zero h0
          subst hx0
          go_wp2_with (go_at_call 46; refine (Tryz.strings_Join_none _ _ _ _).mono ?_; rintro e w5 ⟨rfl, rfl⟩)
          go_ret
          exact ⟨by rw [HV.out]; rfl, hBw⟩
        · obtain ⟨bk, off, c1, rfl, hlc, _, hbk, hcl⟩ := hre.one hp
          have hjo := Tryz.strings_Join bk off c1 (xs.map fun x => ba (eText x)) ⟨#[44]⟩ wr (fun j y hy => by
            rw [List.getElem?_map] at hy
            obtain ⟨x, hx, rfl⟩ := Option.map_eq_some_iff.1 hy
            exact hcl j x hx) hbk (by rw [List.length_map]; omega) (by rw [List.length_map]; exact hlc) HJL.out
          rw [List.length_map] at hjo
          have HJO := Lib.hid hjo
          clear hjo hcl hre
          go_wp2_with (go_at_call 46; refine HJO.out.mono ?_; rintro e w5 ⟨rfl, hB5⟩)
          go_ret
          refine ⟨ret_str (nm_inj ?_), below_then' hBw (by omega) hB5⟩
          rw [HV.out, nm_ba, ← HJE.out]
          exact (nm_ba _).trans (by rw [List.map_map])
end Go.Proofs.YtgjlgpaoilaikaaGreatDoor
