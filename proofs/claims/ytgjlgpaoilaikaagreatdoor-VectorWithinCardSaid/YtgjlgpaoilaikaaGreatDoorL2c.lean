/-
  Layer 2: the rest: Of, Compare, Fits, the reference's Add, Of, Compare.
-/
import Derived.Test.YtgjlgpaoilaikaaGreatDoorL2b
namespace Go.Proofs.YtgjlgpaoilaikaaGreatDoor
open Go.RowKit
attribute [local go_sem high] eq_wide

set_option maxRecDepth 100000 in
set_option maxHeartbeats 1000000 in
theorem radd_any (a b : Int) (w : World) (ha : wOk a = true) (hb : wOk b = true) :
    Calls Tryz.prog 17 #[wV a, wV b] w fun e w' => e = .returned (wRes (a + b)) ∧ Below w.heap.size w w' := by
  have hp := Lib.hid (add_num a b ha hb)
  obtain ⟨rh, rl, ok, hf⟩ := wRes_form (a + b)
  have hfo := Lib.hid hf
  clear hf
  unfold wV
  go_enter Tryz.func17, Tryz.ntmps17
  go_wp2_with fail
  obtain ⟨W0, hW0⟩ : ∃ W0, W0 = ((w.alloc (.cells #[.int .i64 (wHi a), .int .u64 (wLo a)] 41)).alloc (.cells #[.int .i64 (wHi b), .int .u64 (wLo b)] 41)).alloc (.cells #[.int .i64 0, .int .u64 0] 41) := ⟨_, rfl⟩
  rw [← hW0]
  have hsz : W0.heap.size = w.heap.size + 3 := by rw [hW0]; simp
  have ka : W0.heap[w.heap.size]? = some (.cells #[.int .i64 (wHi a), .int .u64 (wLo a)] 41 (0, 0)) := by rw [hW0, Below.heap_alloc _ _ _ (by simp; omega), Below.heap_alloc _ _ _ (by simp), heap_at _ _ _ rfl]
  have kb : W0.heap[w.heap.size + 1]? = some (.cells #[.int .i64 (wHi b), .int .u64 (wLo b)] 41 (0, 0)) := by rw [hW0, Below.heap_alloc _ _ _ (by simp), heap_at _ _ _ (by simp)]
  have kr : W0.heap[w.heap.size + 2]? = some (.cells #[.int .i64 0, .int .u64 0] 41 (0, 0)) := by rw [hW0, heap_at _ _ _ (by simp)]
  have ca0 : W0.cell? ⟨w.heap.size, 0, none⟩ = some (.int .i64 (wHi a)) := (blk_cell' ka 0).trans rfl
  have ca1 : W0.cell? ⟨w.heap.size, 1, none⟩ = some (.int .u64 (wLo a)) := (blk_cell' ka 1).trans rfl
  have cb0 : W0.cell? ⟨w.heap.size + 1, 0, none⟩ = some (.int .i64 (wHi b)) := (blk_cell' kb 0).trans rfl
  have cb1 : W0.cell? ⟨w.heap.size + 1, 1, none⟩ = some (.int .u64 (wLo b)) := (blk_cell' kb 1).trans rfl
  have KR := Lib.hid kr
  clear ka kb kr
  have hB0 : Below w.heap.size w W0 := by rw [hW0]; exact (((Below.refl _ _).alloc (Nat.le_refl _) _).alloc (by simp) _).alloc (by simp; omega) _
  have HS := Lib.hid hsz
  clear hW0 hsz
  go_region_held3 (fun w' => w'.cell? ⟨w.heap.size, 0, none⟩ = some (.int .i64 (wHi a)) ∧ w'.cell? ⟨w.heap.size, 1, none⟩ = some (.int .u64 (wLo a)) ∧ w'.cell? ⟨w.heap.size + 1, 0, none⟩ = some (.int .i64 (wHi b)) ∧ w'.cell? ⟨w.heap.size + 1, 1, none⟩ = some (.int .u64 (wLo b)))
    (((try dsimp only); (try go_split_ands); (repeat' apply And.intro) <;> first | assumption | (apply keep_cell <;> assumption) | (apply keep_far <;> first | (dsimp only; omega) | (apply keep_far <;> first | (dsimp only; omega) | assumption))))
    (first
      | (go_at_call_of 43 (wHi a); refine (bits_any a 2 _ (by omega)).mono ?_; rintro e wa ⟨va, rfl, howna, hBa⟩)
      | (go_at_call_of 43 (wHi b); refine (bits_any b 2 _ (by omega)).mono ?_; rintro e wb ⟨vb, rfl, hownb, hBb⟩)
      | (go_at_call 42; refine (sum_any va vb (bitsOf a 2) (bitsOf b 2) 0 _ (own_slAt1 (by rw [bitsOf_length]; exact own_below' howna hBb)) (own_slAt1 (by rw [bitsOf_length]; exact hownb)) (by rw [bitsOf_length, bitsOf_length]) (by rw [bitsOf_length]; omega) (by rw [bitsOf_length]; omega) (bitsOf_B01 a 2) (bitsOf_B01 b 2) (by omega) (by omega)).mono ?_; rintro e wc ⟨vc, rfl, hownc, hBc⟩)
      | (go_at_call 41; refine (number_any vc (sumB (bitsOf a 2) (bitsOf b 2) 0) _ (own_slAt1 (by rw [sumB_length _ _ _ (by rw [bitsOf_length, bitsOf_length])]; exact hownc)) (by rw [sumB_length _ _ _ (by rw [bitsOf_length, bitsOf_length]), bitsOf_length]) (sumB_val _ _ 0 (by rw [bitsOf_length, bitsOf_length]) (bitsOf_B01 a 2) (bitsOf_B01 b 2) (by omega) (by omega)).1).mono ?_; rintro e wd ⟨rfl, hBd⟩; have kr := Lib.hid (blk_below' (blk_below' (blk_below' (blk_below' (w := W0.drew) KR.out hBa) hBb) hBc) hBd); have r0 : wd.cell? ⟨w.heap.size + 1 + 1, 0, none⟩ = some (.int .i64 0) := (blk_cell' kr.out 0).trans rfl; have r1 : wd.cell? ⟨w.heap.size + 1 + 1, 1, none⟩ = some (.int .u64 0) := (blk_cell' kr.out 1).trans rfl; have f0 : wd.frozen? ⟨w.heap.size + 1 + 1, 0, none⟩ = false := blk_frozen' kr.out 0; have f1 : wd.frozen? ⟨w.heap.size + 1 + 1, 1, none⟩ = false := blk_frozen' kr.out 1; rw [hp.out, hfo.out]))
  go_wp2_with fail
  refine ret_ct rfl (w.heap.size + 2) 41 #[.int .i64 rh, .int .u64 rl] (0, 0) _ rfl (blk_set' (blk_set' kr.out 0 _) 1 _) Tryz.underlying41 rfl (by kernel_rfl) rfl ⟨by rw [hfo.out]; rfl, ?_⟩
  have hBB := below_then' hB0 (by rw [HS.out]; omega) (below_then' (below_undrew hBa) hBa.size (below_then' hBb hBb.size (below_then' hBc hBc.size hBd)))
  exact (hBB.setCell (by simp; omega) _).setCell (by simp; omega) _

theorem wV_of (n h l : Int) (h1 : wHi n = h) (h2 : wLo n = l) : wV n = .agg #[.int .i64 h, .int .u64 l] := by subst h1 h2; rfl
set_option maxRecDepth 100000 in
theorem rof_any (n : Int) (w : World) (h0 : -9223372036854775808 ≤ n) (h1 : n ≤ 9223372036854775807) :
    Calls Tryz.prog 30 #[.int .i64 n] w fun e w' => e = .returned (wV n) ∧ Below w.heap.size w w' := by
  by_cases hn : n < 0
  · have hv := Lib.hid (wV_of n (-1) (IntKind.u64.wrap n) (by unfold wHi; omega) (by rw [u64w]; rfl))
    go_enter Tryz.func30, Tryz.ntmps30
    go_wp2_with fail
    exact ret_c rfl w.heap.size 41 _ (0, 0) _ rfl (heap_alloc_new _ _) Tryz.underlying41 rfl (by kernel_rfl) rfl ⟨by rw [hv.out], (Below.refl _ _).alloc (Nat.le_refl _) _⟩
  · have hv := Lib.hid (wV_of n 0 n (by unfold wHi; omega) (by unfold wLo; omega))
    go_enter Tryz.func30, Tryz.ntmps30
    go_wp2_with fail
    exact ret_c rfl w.heap.size 41 _ (0, 0) _ rfl (heap_alloc_new _ _) Tryz.underlying41 rfl (by kernel_rfl) rfl ⟨by rw [hv.out], (Below.refl _ _).alloc (Nat.le_refl _) _⟩

set_option maxRecDepth 100000 in
theorem wof_any (n : Int) (w : World) (h0 : -9223372036854775808 ≤ n) (h1 : n ≤ 9223372036854775807) :
    Calls Tryz.prog 26 #[.int .i64 n] w fun e w' => e = .returned (wV n) ∧ Below w.heap.size w w' := by
  have hv := Lib.hid (wV_of n (n / 9223372036854775808) (IntKind.u64.wrap n) (by unfold wHi; omega) (by rw [u64w]; rfl))
  go_enter Tryz.func26, Tryz.ntmps26
  go_wp2_with fail
  exact ret_c rfl w.heap.size 41 _ (0, 0) _ rfl (heap_alloc_new _ _) Tryz.underlying41 rfl (by kernel_rfl) rfl ⟨by rw [hv.out], (Below.refl _ _).alloc (Nat.le_refl _) _⟩

/-! ### comparing -/
def orI (x y : Int) : Int := if x ≠ 0 then x else y
def cmpI (a b : Int) : Int := if a < b then -1 else if b < a then 1 else 0
theorem cmpI_w (a b : Int) : orI (cmpI (wHi a) (wHi b)) (cmpI (wLo a) (wLo b)) = cmpI a b := by
  unfold orI cmpI wHi wLo
  repeat' split
  all_goals omega
set_option maxHeartbeats 400000 in
theorem cmp64_any (a b : Int) (w : World) :
    Calls Tryz.prog 65 #[.int .i64 a, .int .i64 b] w fun e w' => e = .returned (.int .i64 (cmpI a b)) ∧ w = w' := by
  rcases Int.lt_trichotomy a b with h | h | h
  all_goals
    try subst h
    go_enter Tryz.func65, Tryz.ntmps65
    go_wp2
    go_ret
    exact ⟨ret_int (by unfold cmpI; repeat' split; all_goals omega), rfl⟩
set_option maxHeartbeats 400000 in
theorem cmpu64_any (a b : Int) (w : World) :
    Calls Tryz.prog 66 #[.int .u64 a, .int .u64 b] w fun e w' => e = .returned (.int .i64 (cmpI a b)) ∧ w = w' := by
  rcases Int.lt_trichotomy a b with h | h | h
  all_goals
    try subst h
    go_enter Tryz.func66, Tryz.ntmps66
    go_wp2
    go_ret
    exact ⟨ret_int (by unfold cmpI; repeat' split; all_goals omega), rfl⟩
set_option maxHeartbeats 400000 in
theorem or_any (x y : Int) (g : Nat) (w : World) (hx : w.cell? ⟨g, 0, none⟩ = some (.int .i64 x)) (hy : w.cell? ⟨g, 1, none⟩ = some (.int .i64 y)) :
    Calls Tryz.prog 64 #[.slice (some ⟨g, 0, none⟩) 2 2] w fun e w' => e = .returned (.int .i64 (orI x y)) ∧ w = w' := by
  go_enter Tryz.func64, Tryz.ntmps64
  go_wp2_with fail
  go_loop [8] (fun i => ∃ k : Nat, k ≤ 2 ∧ i = .int .i64 k ∧ Hid (1 ≤ k → x = 0) ∧ Hid (k = 2 → y = 0)) (fun i => 2 - (intOf i).toNat)
  case atStart => exact ⟨0, by omega, rfl, Lib.hid (fun h => by omega), Lib.hid (fun h => by omega)⟩
  case round =>
    obtain ⟨k, hk, rfl, hk1, hk2⟩ := hrel
    obtain ⟨z, hz⟩ : ∃ z, Hid ((k = 0 → z = x) ∧ (k = 1 → z = y)) := ⟨if k = 0 then x else y, Lib.hid ⟨fun h => by simp [h], fun h => by simp [h]⟩⟩
    by_cases hlt : k < 2
    · have hck : w.cell? ⟨g, k, none⟩ = some (.int .i64 z) := by
        have : k = 0 ∨ k = 1 := by omega
        rcases this with rfl | rfl
        · rw [hz.out.1 rfl]; exact hx
        · rw [hz.out.2 rfl]; exact hy
      by_cases hz0 : z = 0
      · have hzz : (z != 0) = false := by simpa using hz0
        have HZ := Lib.hid hz0
        clear hz0
        go_wp2_with fail
        refine ⟨⟨k + 1, by omega, by go_num, Lib.hid fun _ => ?_, Lib.hid fun h => ?_⟩, by simp [intOf]; omega⟩
        · by_cases h0 : k = 0
          · rw [← hz.out.1 h0]; exact HZ.out
          · exact hk1.out (by omega)
        · rw [← hz.out.2 (by omega)]; exact HZ.out
      · have hzz : (z != 0) = true := by simpa using hz0
        have HZ := Lib.hid hz0
        clear hz0
        go_wp2_with fail
        go_ret
        refine ⟨ret_int ?_, rfl⟩
        unfold orI
        by_cases h0 : k = 0
        · rw [← hz.out.1 h0, if_pos HZ.out]
        · rw [hk1.out (by omega), if_neg (by simp), hz.out.2 (by omega)]
    · go_wp2_with fail
      go_ret
      exact ⟨ret_int (by rw [hk1.out (by omega), hk2.out (by omega)]; rfl), rfl⟩

set_option maxRecDepth 100000 in
set_option maxHeartbeats 1000000 in
theorem wcmp_any (a b : Int) (w : World) :
    Calls Tryz.prog 44 #[wV a, wV b] w fun e w' => e = .returned (.int .i64 (cmpI a b)) ∧ Below w.heap.size w w' := by
  unfold wV
  have hcm := Lib.hid (cmpI_w a b)
  go_enter Tryz.func44, Tryz.ntmps44
  go_wp2_with fail
  obtain ⟨W0, hW0⟩ : ∃ W0, W0 = (w.alloc (.cells #[.int .i64 (wHi a), .int .u64 (wLo a)] 41)).alloc (.cells #[.int .i64 (wHi b), .int .u64 (wLo b)] 41) := ⟨_, rfl⟩
  rw [← hW0]
  have ka : W0.heap[w.heap.size]? = some (.cells #[.int .i64 (wHi a), .int .u64 (wLo a)] 41 (0, 0)) := by rw [hW0, Below.heap_alloc _ _ _ (by simp), heap_at _ _ _ rfl]
  have kb : W0.heap[w.heap.size + 1]? = some (.cells #[.int .i64 (wHi b), .int .u64 (wLo b)] 41 (0, 0)) := by rw [hW0, heap_at _ _ _ (by simp)]
  have ca0 : W0.cell? ⟨w.heap.size, 0, none⟩ = some (.int .i64 (wHi a)) := (blk_cell' ka 0).trans rfl
  have ca1 : W0.cell? ⟨w.heap.size, 1, none⟩ = some (.int .u64 (wLo a)) := (blk_cell' ka 1).trans rfl
  have cb0 : W0.cell? ⟨w.heap.size + 1, 0, none⟩ = some (.int .i64 (wHi b)) := (blk_cell' kb 0).trans rfl
  have cb1 : W0.cell? ⟨w.heap.size + 1, 1, none⟩ = some (.int .u64 (wLo b)) := (blk_cell' kb 1).trans rfl
  have hB0 : Below w.heap.size w W0 := by rw [hW0]; exact ((Below.refl _ _).alloc (Nat.le_refl _) _).alloc (by simp) _
  have hs0 := hB0.size
  clear ka kb hW0
  go_region_held3 (fun w' => w'.cell? ⟨w.heap.size, 0, none⟩ = some (.int .i64 (wHi a)) ∧ w'.cell? ⟨w.heap.size, 1, none⟩ = some (.int .u64 (wLo a)) ∧ w'.cell? ⟨w.heap.size + 1, 0, none⟩ = some (.int .i64 (wHi b)) ∧ w'.cell? ⟨w.heap.size + 1, 1, none⟩ = some (.int .u64 (wLo b)))
    (first | go_keep | (((try dsimp only); (try go_split_ands); (repeat' apply And.intro) <;> first | assumption | (apply keep_cell <;> assumption) | (go_keep; done))))
    (first
      | (go_at_call 65; refine (cmp64_any _ _ _).mono ?_; rintro e wa ⟨rfl, rfl⟩)
      | (go_at_call 66; refine (cmpu64_any _ _ _).mono ?_; rintro e wa ⟨rfl, rfl⟩)
      | (go_at_call 64; refine (or_any (cmpI (wHi a) (wHi b)) (cmpI (wLo a) (wLo b)) _ _ (by simp) (by simp)).mono ?_; rintro e wb ⟨rfl, rfl⟩))
  go_wp2_with fail
  go_ret
  exact ⟨ret_int hcm.out, (hB0.alloc hs0 _).drew⟩

set_option maxRecDepth 100000 in
set_option maxHeartbeats 1000000 in
theorem rcmp_any (a b : Int) (w : World) :
    Calls Tryz.prog 20 #[wV a, wV b] w fun e w' => e = .returned (.int .i64 (cmpI a b)) ∧ Below w.heap.size w w' := by
  unfold wV
  have hcm := Lib.hid (cmpI_w a b)
  have hB0 : ∀ o1 o2, Below w.heap.size w ((w.alloc o1).alloc o2) := fun o1 o2 => ((Below.refl _ _).alloc (Nat.le_refl _) _).alloc (by simp) _
  generalize wHi a = ah at *
  generalize wHi b = bh at *
  generalize wLo a = al at *
  generalize wLo b = bl at *
  rcases Int.lt_trichotomy ah bh with h | h | h
  · go_enter Tryz.func20, Tryz.ntmps20
    go_wp2
    go_ret
    exact ⟨ret_int (by rw [← hcm.out]; unfold orI cmpI; repeat' split; all_goals omega), hB0 _ _⟩
  · subst h
    rcases Int.lt_trichotomy al bl with h | h | h
    all_goals
      try subst h
      go_enter Tryz.func20, Tryz.ntmps20
      go_wp2
      go_ret
      exact ⟨ret_int (by rw [← hcm.out]; unfold orI cmpI; repeat' split; all_goals omega), hB0 _ _⟩
  · have h2 : (ah == bh) = false := by simp; omega
    go_enter Tryz.func20, Tryz.ntmps20
    go_wp2
    go_ret
    exact ⟨ret_int (by rw [← hcm.out]; unfold orI cmpI; repeat' split; all_goals omega), hB0 _ _⟩

/-! ### Fits -/
def fitsB (n : Int) : Bool := decide (-9223372036854775808 ≤ n) && decide (n ≤ 9223372036854775807)
def fitV (n : Int) : Value := .tuple #[.int .i64 (if fitsB n then n else 0), .bool (fitsB n)]
set_option maxRecDepth 100000 in
set_option maxHeartbeats 1000000 in
theorem wfits_any (n : Int) (w : World) :
    Calls Tryz.prog 48 #[wV n] w fun e w' => e = .returned (fitV n) ∧ Below w.heap.size w w' := by
  unfold wV
  obtain ⟨m, hm⟩ : ∃ m, m = wrap64 (wLo n) := ⟨_, rfl⟩
  have hm1 : -9223372036854775808 ≤ m := by rw [hm]; unfold wrap64; omega
  have hm2 : m ≤ 9223372036854775807 := by rw [hm]; unfold wrap64; omega
  have hfit : (fitsB n = true → m = n) ∧ (fitsB n = false → wHi m ≠ wHi n) := by
    rw [hm]
    simp only [fitsB, wHi, wLo, wrap64]
    constructor
    · intro h; simp at h; omega
    · intro h; simp at h; omega
  have HF := Lib.hid hfit
  clear hfit
  go_enter Tryz.func48, Tryz.ntmps48
  go_wp2_with fail
  rw [← hm]
  obtain ⟨W0, hW0⟩ : ∃ W0, W0 = w.alloc (.cells #[.int .i64 (wHi n), .int .u64 (wLo n)] 41) := ⟨_, rfl⟩
  rw [← hW0]
  have ka : W0.heap[w.heap.size]? = some (.cells #[.int .i64 (wHi n), .int .u64 (wLo n)] 41 (0, 0)) := by rw [hW0, heap_at _ _ _ rfl]
  have ca0 : W0.cell? ⟨w.heap.size, 0, none⟩ = some (.int .i64 (wHi n)) := (blk_cell' ka 0).trans rfl
  have ca1 : W0.cell? ⟨w.heap.size, 1, none⟩ = some (.int .u64 (wLo n)) := (blk_cell' ka 1).trans rfl
  have hB0 : Below w.heap.size w W0 := by rw [hW0]; exact (Below.refl _ _).alloc (Nat.le_refl _) _
  have hs0 := hB0.size
  have HM := Lib.hid hm
  clear ka hW0 hm
  by_cases hf : fitsB n = true
  · have hmn := HF.out.1 hf
    have hne : (wHi m == wHi n) = true := by rw [hmn]; simp
    have hnl : (wLo m == wLo n) = true := by rw [hmn]; simp
    have HMN := Lib.hid hmn
    have HMN := Lib.hid hmn
    have hv := Lib.hid (show fitV n = .tuple #[.int .i64 n, .bool true] by simp [fitV, hf])
    clear hmn hf
    go_region_held3 (fun w' => w'.cell? ⟨w.heap.size, 0, none⟩ = some (.int .i64 (wHi n)) ∧ w'.cell? ⟨w.heap.size, 1, none⟩ = some (.int .u64 (wLo n)))
      (first | go_keep | (((try dsimp only); (try go_split_ands); (repeat' apply And.intro) <;> first | assumption | (apply keep_cell <;> assumption) | (go_keep; done))))
      (first
        | (go_at_call 26; refine (wof_any _ _ hm1 hm2).mono ?_; rintro e wa ⟨rfl, hBa⟩; unfold wV))
    go_wp2_with fail
    go_ret2
    exact ⟨by rw [hv.out, ← HMN.out]; rfl, below_then' hB0 hs0 (below_undrew hBa)⟩
  · have hf2 : fitsB n = false := by simpa using hf
    have hne : (wHi m == wHi n) = false := by simpa using HF.out.2 hf2
    have hv := Lib.hid (show fitV n = .tuple #[.int .i64 0, .bool false] by simp [fitV, hf2])
    clear hf hf2
    go_region_held3 (fun w' => w'.cell? ⟨w.heap.size, 0, none⟩ = some (.int .i64 (wHi n)) ∧ w'.cell? ⟨w.heap.size, 1, none⟩ = some (.int .u64 (wLo n)))
      (first | go_keep | (((try dsimp only); (try go_split_ands); (repeat' apply And.intro) <;> first | assumption | (apply keep_cell <;> assumption) | (go_keep; done))))
      (first
        | (go_at_call 26; refine (wof_any _ _ hm1 hm2).mono ?_; rintro e wa ⟨rfl, hBa⟩; unfold wV))
    go_wp2_with fail
    go_ret2
    exact ⟨by rw [hv.out]; rfl, below_then' hB0 hs0 (below_undrew hBa)⟩
end Go.Proofs.YtgjlgpaoilaikaaGreatDoor
