/-
  Layer 4: the reference's put.
-/
import Derived.Test.YtgjlgpaoilaikaaGreatDoorV0
import Derived.Test.YtgjlgpaoilaikaaGreatDoorBase2
namespace Go.Proofs.YtgjlgpaoilaikaaGreatDoor
open Go.RowKit

/-! ### the reference's put -/
def slt (a b : ByteArray) : Bool := Op.bytesLess (nm a) (nm b)
theorem before_is (a b : ByteArray) (r : Bool) (w : World) (ha : a.size ≤ 9223372036854775807) (hb : b.size ≤ 9223372036854775807) (hr : slt a b = r) :
    Calls Tryz.prog 36 #[.string a, .string b] w fun e w' => e = .returned (.bool r) ∧ ∃ n, w' = w.drewN n := by
  refine (before_any a b w ha hb).mono ?_
  rintro e w' ⟨rfl, h⟩
  rw [nm_toList, nm_toList]
  exact ⟨by rw [← hr]; rfl, h⟩
def putGo (name : ByteArray) (n : Int) : Bool → List Ent → List Ent
  | d, [] => if d then [] else [⟨name, n⟩]
  | d, x :: xs => (if !d && slt name x.name then [⟨name, n⟩] else []) ++ (if nm x.name == nm name then [] else [x]) ++ putGo name n (d || slt name x.name) xs
def vPut (xs : List Ent) (name : ByteArray) (n : Int) : List Ent := putGo name n (decide (n = 0)) xs
theorem infoEnt : (Tryz.prog.info? 45).map (fun i => (i.zero, i.size, i.bytes)) = some (some (.agg #[.string ⟨#[]⟩, .int .i64 0, .int .u64 0]), 3, 32) := by kernel_rfl
theorem wz (n : Int) : n = 0 ↔ wHi n = 0 ∧ wLo n = 0 := by unfold wHi wLo; omega

set_option maxRecDepth 100000 in
set_option maxHeartbeats 2000000 in
theorem put_any (va : Value) (xs : List Ent) (name : ByteArray) (n : Int) (w : World) (ha : VAt w va xs) (hf : VFine xs) (hl : xs.length ≤ 100000000) (hname : name.size ≤ 9223372036854775807) :
    Calls Tryz.prog 31 #[va, .string name, wV n] w fun e w' => ∃ v, e = .returned v ∧ w'.ownsRow w.heap.size 45 3 v (vPut xs name n).length ((vPut xs name n).flatMap encE) ∧ Below w.heap.size w w' := by
  obtain ⟨A, c, rfl, hlm⟩ := SlAt.form ha
  have hcell : ∀ W, Below w.heap.size w W → ∀ j x, xs[j]? = some x → ∃ b off, A = some ⟨b, off, none⟩ ∧ W.cell? ⟨b, off + j * 3, none⟩ = some (.string x.name) ∧ W.cell? ⟨b, off + j * 3 + 1, none⟩ = some (.int .i64 (wHi x.n)) ∧ W.cell? ⟨b, off + j * 3 + 2, none⟩ = some (.int .u64 (wLo x.n)) := by
    intro W hW j x hx
    obtain ⟨b, off, c', e, _, _, _, h⟩ := VAt.all ha (by have := (List.getElem?_eq_some_iff.1 hx).1; omega)
    cases e
    exact ⟨b, off, rfl, h W hW j x hx⟩
  have HC := Lib.hid hcell
  have HF := Lib.hid hf
  clear hcell hf ha
  unfold wV
  obtain ⟨d0, hd0⟩ : ∃ d0, decide (n = 0) = d0 := ⟨_, rfl⟩
  have hz := wz n
  have HD := Lib.hid (show vPut xs name n = putGo name n d0 xs by rw [vPut, hd0])
  have hdd : ((wHi n == 0) = false ∧ d0 = false) ∨ ((wHi n == 0) = true ∧ (wLo n == 0) = d0) := by
    rw [← hd0]
    by_cases h1 : wHi n = 0
    · right; refine ⟨by simp [h1], ?_⟩; rw [Bool.eq_iff_iff]; simp only [beq_iff_eq, decide_eq_true_eq, hz, h1, true_and]
    · left
      have : n ≠ 0 := fun h => h1 (hz.1 h).1
      exact ⟨by simp [h1], by simp [this]⟩
  clear hz hd0
  go_enter Tryz.func31, Tryz.ntmps31
  go_upto_region 2 with (fail)
  obtain ⟨W1, hW1, HS, HK, hB1⟩ := box1 w #[.int .i64 (wHi n), .int .u64 (wLo n)] 41
  rw [hW1]
  clear hW1
  have hbx : ∀ W, Below W1.heap.size W1 W → W.cell? ⟨w.heap.size, 0, none⟩ = some (.int .i64 (wHi n)) ∧ W.cell? ⟨w.heap.size, 1, none⟩ = some (.int .u64 (wLo n)) := fun W hW => by
    obtain ⟨z0, z1, _, _⟩ := blk2 (blk_below' HK.out hW)
    exact ⟨z0, z1⟩
  obtain ⟨z0, z1⟩ := hbx W1 (Below.refl _ _)
  have HX0 := Lib.hid hbx
  have hup : ∀ W, Below W1.heap.size W1 W → Below w.heap.size w W := fun W hW => below_then' hB1 (by rw [HS.out]; omega) hW
  have HU := Lib.hid hup
  clear hbx hup
  go_cut [8] (fun v8 wc => v8 = .bool d0 ∧ W1 = wc)
  case first =>
    rcases hdd with ⟨h1, rfl⟩ | ⟨h1, h2⟩
    all_goals
      go_wp2_with fail
      go_meet
      case rel => exact ⟨rfl, rfl⟩
  case rest =>
    obtain ⟨rfl, rfl⟩ := hcut
    clear hdd z0 z1
    go_wp2_with fail
    go_loopw [7, 8, 9] (fun v dv i wr => ∃ (k : Nat) (d : Bool) (out : List Ent), k ≤ xs.length ∧ i = .int .i64 k ∧ dv = .bool d ∧ out.length ≤ 2 * k ∧ Hid (putGo name n d0 xs = out ++ putGo name n d (xs.drop k)) ∧ wr.ownsRow W1.heap.size 45 3 v out.length (out.flatMap encE) ∧ Below W1.heap.size W1 wr) (fun _ _ i _ => xs.length - (intOf i).toNat)
    case atStart => exact ⟨0, _, [], by omega, rfl, rfl, by simp, Lib.hid (by simp), own_nil' _ _ _ _, Below.refl _ _⟩
    case round =>
      obtain ⟨k, d, out, hk, rfl, rfl, hol, hs, hown, hB⟩ := hrel
      have hbs := hB.size
      by_cases hlt2 : k < xs.length
      · obtain ⟨x, hx⟩ : ∃ x, xs[k]? = some x := ⟨_, List.getElem?_eq_getElem hlt2⟩
        obtain ⟨b, off, rfl, c0, c1, c2⟩ := HC.out wr (HU.out wr hB) k x hx
        have hxn := (HF.out x (List.mem_of_getElem? hx)).1
        have hst : putGo name n d (xs.drop k) = (if !d && slt name x.name then [⟨name, n⟩] else []) ++ (if nm x.name == nm name then [] else [x]) ++ putGo name n (d || slt name x.name) (xs.drop (k + 1)) := by
          obtain ⟨h, rfl⟩ := List.getElem?_eq_some_iff.1 hx
          rw [List.drop_eq_getElem_cons h]
          rfl
        have hcx : ∀ W, Below w.heap.size w W → W.cell? ⟨b, off + k * 3, none⟩ = some (.string x.name) ∧ W.cell? ⟨b, off + k * 3 + 1, none⟩ = some (.int .i64 (wHi x.n)) ∧ W.cell? ⟨b, off + k * 3 + 2, none⟩ = some (.int .u64 (wLo x.n)) := fun W hW => by
          obtain ⟨_, _, e, h⟩ := HC.out W hW k x hx
          cases e
          exact h
        have HCX := Lib.hid hcx
        obtain ⟨sl, hsl⟩ : ∃ sl, slt name x.name = sl := ⟨_, rfl⟩
        obtain ⟨e, he⟩ : ∃ e, (nm x.name == nm name) = e := ⟨_, rfl⟩
        rw [hsl, he] at hst
        have hbn : (x.name.toList == name.toList) = e := by rw [← he, nm_toList, nm_toList]
        have HST := Lib.hid hst
        have HSL := Lib.hid hsl
        clear hst hx hsl he hcx HC HF
        have hcase : (d = false ∧ sl = true) ∨ d = true ∨ (d = false ∧ sl = false) := by cases d <;> cases sl <;> simp
        rcases hcase with ⟨rfl, rfl⟩ | rfl | ⟨rfl, rfl⟩
        · cases e
          all_goals
            go_wp2_with (first
              | (go_at_call 36; refine (before_is _ _ _ _ hname hxn HSL.out).mono ?_; rintro e w' ⟨rfl, q, rfl⟩; have hown2 : (wr.drewN q).ownsRow W1.heap.size 45 3 _ out.length (out.flatMap encE) := hown; have hB2 := below_drewN' hB q; have hbs2 := hB2.size; generalize wr.drewN q = W2 at hown2 hB2 hbs2 ⊢; obtain ⟨e0, e1, e2⟩ := HCX.out W2 (HU.out W2 hB2); obtain ⟨b0, b1⟩ := HX0.out W2 hB2)
              | ((with_reducible refine gate_app (.tmp 37) (.tmp 41) ?_); refine app_own (w0 := W1) W1.heap.size rfl (.tmp 37) (.tmp 41) 27 45 (.agg #[.string ⟨#[]⟩, .int .i64 0, .int .u64 0]) 3 32 rfl Tryz.underlying27 infoEnt rfl (by decide) (by decide) _ out.length _ [.string name, .int .i64 (wHi n), .int .u64 (wLo n)] rfl rfl rfl (by simp [Value.oneCell']) hown2 hB2 hbs2 (by omega) ?_; intro v1 w1 hown1 hB1' hg1 hloc hsz1; obtain ⟨g0, g1, g2⟩ := HCX.out w1 (HU.out w1 hB1'))
              | ((with_reducible refine gate_app (.tmp 50) (.tmp 55) ?_); refine app_own (w0 := W1) W1.heap.size rfl (.tmp 50) (.tmp 55) 27 45 (.agg #[.string ⟨#[]⟩, .int .i64 0, .int .u64 0]) 3 32 rfl Tryz.underlying27 infoEnt rfl (by decide) (by decide) _ (out.length + 1) _ [.string x.name, .int .i64 (wHi x.n), .int .u64 (wLo x.n)] rfl rfl rfl (by simp [Value.oneCell']) hown1 hB1' hsz1 (by omega) ?_; intro v3 w3 hown3 hB3 hg3 hloc3 hsz3))
          · refine ⟨⟨k + 1, true, out ++ [⟨name, n⟩] ++ [x], by omega, by go_num, rfl, by simp; omega, Lib.hid ?_, ?_, hB3⟩, by simp [intOf]; omega⟩
            · rw [hs.out, HST.out]; simp
            · simp only [List.length_append, List.length_singleton, List.flatMap_append, List.flatMap_singleton]; exact hown3
          · refine ⟨⟨k + 1, true, out ++ [⟨name, n⟩], by omega, by go_num, rfl, by simp; omega, Lib.hid ?_, ?_, hB1'⟩, by simp [intOf]; omega⟩
            · rw [hs.out, HST.out]; simp
            · simp only [List.length_append, List.length_singleton, List.flatMap_append, List.flatMap_singleton]; exact hown1
        · cases e
          all_goals
            go_wp2_with (first
              | (go_at_call 36; refine (before_is _ _ _ _ hname hxn HSL.out).mono ?_; rintro e w' ⟨rfl, q, rfl⟩; have hown2 : (wr.drewN q).ownsRow W1.heap.size 45 3 _ out.length (out.flatMap encE) := hown; have hB2 := below_drewN' hB q; have hbs2 := hB2.size; generalize wr.drewN q = W2 at hown2 hB2 hbs2 ⊢; obtain ⟨e0, e1, e2⟩ := HCX.out W2 (HU.out W2 hB2); obtain ⟨b0, b1⟩ := HX0.out W2 hB2)
              | ((with_reducible refine gate_app (.tmp 50) (.tmp 55) ?_); refine app_own (w0 := W1) W1.heap.size rfl (.tmp 50) (.tmp 55) 27 45 (.agg #[.string ⟨#[]⟩, .int .i64 0, .int .u64 0]) 3 32 rfl Tryz.underlying27 infoEnt rfl (by decide) (by decide) _ out.length _ [.string x.name, .int .i64 (wHi x.n), .int .u64 (wLo x.n)] rfl rfl rfl (by simp [Value.oneCell']) hown2 hB2 hbs2 (by omega) ?_; intro v3 w3 hown3 hB3 hg3 hloc3 hsz3))
          · refine ⟨⟨k + 1, true, out ++ [x], by omega, by go_num, rfl, by simp; omega, Lib.hid ?_, ?_, hB3⟩, by simp [intOf]; omega⟩
            · rw [hs.out, HST.out]; simp
            · simp only [List.length_append, List.length_singleton, List.flatMap_append, List.flatMap_singleton]; exact hown3
          · refine ⟨⟨k + 1, true, out, by omega, by go_num, rfl, by omega, Lib.hid ?_, hown2, hB2⟩, by simp [intOf]; omega⟩
            rw [hs.out, HST.out]; simp
        · cases e
          all_goals
            go_wp2_with (first
              | (go_at_call 36; refine (before_is _ _ _ _ hname hxn HSL.out).mono ?_; rintro e w' ⟨rfl, q, rfl⟩; have hown2 : (wr.drewN q).ownsRow W1.heap.size 45 3 _ out.length (out.flatMap encE) := hown; have hB2 := below_drewN' hB q; have hbs2 := hB2.size; generalize wr.drewN q = W2 at hown2 hB2 hbs2 ⊢; obtain ⟨e0, e1, e2⟩ := HCX.out W2 (HU.out W2 hB2); obtain ⟨b0, b1⟩ := HX0.out W2 hB2)
              | ((with_reducible refine gate_app (.tmp 50) (.tmp 55) ?_); refine app_own (w0 := W1) W1.heap.size rfl (.tmp 50) (.tmp 55) 27 45 (.agg #[.string ⟨#[]⟩, .int .i64 0, .int .u64 0]) 3 32 rfl Tryz.underlying27 infoEnt rfl (by decide) (by decide) _ out.length _ [.string x.name, .int .i64 (wHi x.n), .int .u64 (wLo x.n)] rfl rfl rfl (by simp [Value.oneCell']) hown2 hB2 hbs2 (by omega) ?_; intro v3 w3 hown3 hB3 hg3 hloc3 hsz3))
          · refine ⟨⟨k + 1, false, out ++ [x], by omega, by go_num, rfl, by simp; omega, Lib.hid ?_, ?_, hB3⟩, by simp [intOf]; omega⟩
            · rw [hs.out, HST.out]; simp
            · simp only [List.length_append, List.length_singleton, List.flatMap_append, List.flatMap_singleton]; exact hown3
          · refine ⟨⟨k + 1, false, out, by omega, by go_num, rfl, by omega, Lib.hid ?_, hown2, hB2⟩, by simp [intOf]; omega⟩
            rw [hs.out, HST.out]; simp
      · have hkl : xs.drop k = [] := List.drop_eq_nil_of_le (by omega)
        have HKL := Lib.hid hkl
        clear hkl
        obtain ⟨b0, b1⟩ := HX0.out wr hB
        cases d
        · go_wp2_with ((with_reducible refine gate_app (.tmp 59) (.tmp 63) ?_); refine app_own (w0 := W1) W1.heap.size rfl (.tmp 59) (.tmp 63) 27 45 (.agg #[.string ⟨#[]⟩, .int .i64 0, .int .u64 0]) 3 32 rfl Tryz.underlying27 infoEnt rfl (by decide) (by decide) _ out.length _ [.string name, .int .i64 (wHi n), .int .u64 (wLo n)] rfl rfl rfl (by simp [Value.oneCell']) hown hB hbs (by omega) ?_; intro v1 w1 hown1 hB1' hg1 hloc hsz1)
          go_ret
          refine ⟨_, rfl, ?_, HU.out _ hB1'⟩
          have he : vPut xs name n = out ++ [⟨name, n⟩] := by rw [HD.out, hs.out, HKL.out]; rfl
          rw [he]
          simp only [List.length_append, List.length_singleton, List.flatMap_append, List.flatMap_singleton]
          exact own_weaken' hown1 (by rw [HS.out]; omega)
        · go_wp2_with fail
          go_ret
          refine ⟨_, rfl, ?_, HU.out _ hB⟩
          have he : vPut xs name n = out := by rw [HD.out, hs.out, HKL.out]; simp [putGo]
          rw [he]
          exact own_weaken' hown (by rw [HS.out]; omega)
end Go.Proofs.YtgjlgpaoilaikaaGreatDoor
