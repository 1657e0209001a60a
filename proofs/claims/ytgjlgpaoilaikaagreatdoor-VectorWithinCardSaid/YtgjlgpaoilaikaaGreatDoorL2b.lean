/-
  Layer 2, the reference: bits, their sum, and the number of bits.
-/
import Derived.Test.YtgjlgpaoilaikaaGreatDoorL2
namespace Go.Proofs.YtgjlgpaoilaikaaGreatDoor
open Go.RowKit

theorem infoInt : (Tryz.prog.info? 3).map (fun i => (i.zero, i.size, i.bytes)) = some (some (.int .i64 0), 1, 8) := by kernel_rfl

/-- bits, the lowest first -/
def bl (x : Nat) (k : Nat) : List Int := (List.range k).map fun i => ((x / 2 ^ i % 2 : Nat) : Int)
theorem bl_succ (x k : Nat) : bl x (k + 1) = bl x k ++ [((x / 2 ^ k % 2 : Nat) : Int)] := by simp [bl, List.range_succ]
theorem bl_length (x k : Nat) : (bl x k).length = k := by simp [bl]
def vi (n : Int) : Value := .int .i64 n
def bitsOf (n : Int) (more : Nat) : List Int := bl (wLo n).toNat 64 ++ (bl (IntKind.u64.wrap (wHi n)).toNat 64 ++ List.replicate more (((IntKind.u64.wrap (wHi n)).toNat / 2 ^ 63 % 2 : Nat) : Int))

set_option maxRecDepth 100000 in
set_option maxHeartbeats 1000000 in
theorem bits_any (n : Int) (more : Nat) (w : World) (hm : more ≤ 4) :
    Calls Tryz.prog 43 #[wV n, .int .i64 more] w fun e w' => ∃ v, e = .returned v ∧ w'.ownsRow w.heap.size 3 1 v (128 + more) ((bitsOf n more).map vi) ∧ Below w.heap.size w w' := by
  unfold wV
  have hl := wLo_range n
  have hh := uw_range (wHi n)
  obtain ⟨L, hL⟩ : ∃ L : Nat, L = (wLo n).toNat := ⟨_, rfl⟩
  have hL2 : wLo n = (L : Int) := by omega
  obtain ⟨H, hH⟩ : ∃ H : Nat, H = (IntKind.u64.wrap (wHi n)).toNat := ⟨_, rfl⟩
  have hH2 : IntKind.u64.wrap (wHi n) = (H : Int) := by omega
  have hLb : L ≤ 18446744073709551615 := by omega
  have hHb : H ≤ 18446744073709551615 := by omega
  have hbits : bitsOf n more = bl L 64 ++ (bl H 64 ++ List.replicate more ((H / 2 ^ 63 % 2 : Nat) : Int)) := by rw [bitsOf, ← hL, ← hH]
  rw [hbits, hL2]
  clear hbits hL hH hL2 hl hh
  go_enter Tryz.func43, Tryz.ntmps43
  go_wp2_with fail
  obtain ⟨W1, hW1⟩ : ∃ W1, W1 = w.alloc (.cells #[.int .i64 (wHi n), .int .u64 L] 41) := ⟨_, rfl⟩
  rw [← hW1]
  have hsz : W1.heap.size = w.heap.size + 1 := by rw [hW1]; simp
  have hc0 : W1.cell? ⟨w.heap.size, 0, none⟩ = some (.int .i64 (wHi n)) := by rw [hW1]; simp
  have hB1 : Below w.heap.size w W1 := by rw [hW1]; exact (Below.refl _ _).alloc (Nat.le_refl _) _
  have HS := Lib.hid hsz
  have HC := Lib.hid hc0
  have HH := Lib.hid hH2
  clear hW1 hsz hc0 hH2
  go_loopw [5, 6, 7] (fun v lo i wr => ∃ k m : Nat, k ≤ 64 ∧ i = .int .i64 k ∧ lo = .int .u64 m ∧ Hid (m = L / 2 ^ k) ∧ m ≤ 18446744073709551615 ∧ wr.ownsRow W1.heap.size 3 1 v k ((bl L k).map vi) ∧ Below W1.heap.size W1 wr) (fun _ _ i _ => 64 - (intOf i).toNat)
  case atStart => exact ⟨0, L, by omega, rfl, rfl, Lib.hid (by simp), hLb, own_nil' _ _ _ _, Below.refl _ _⟩
  case round =>
    obtain ⟨k, m, hk, rfl, rfl, hm, hmb, hown, hB⟩ := hrel
    have hbs := hB.size
    by_cases hlt : k < 64
    · go_wp2_with (at_builtin; go_loud (refine app_own (w0 := W1) W1.heap.size rfl (.tmp 17) (.tmp 21) 70 3 (.int .i64 0) 1 8 rfl Tryz.underlying70 infoInt rfl (by decide) (by decide) _ k _ [.int .i64 (m % 2)] rfl rfl rfl (by simp [Value.oneCell']) hown hB hbs (by omega) ?_); intro v1 w1 hown1 hB1' hg1 hloc hsz1)
      go_roundw
      case rel =>
        have hm2 : m % 2 = L / 2 ^ k % 2 := by rw [hm.out]
        refine ⟨k + 1, m / 2, by omega, by go_num, by go_num, Lib.hid ?_, by omega, ?_, hB1'⟩
        · rw [hm.out, Nat.pow_succ, Nat.div_div_eq_div_mul]
        · rw [bl_succ, List.map_append, ← hm2]; exact hown1
      case measure => simp [intOf]; omega
    · have hk64 : k = 64 := by omega
      rw [hk64] at hown
      clear hk64
      have hcw := (hB.cell (p := ⟨w.heap.size, 0, none⟩) (by rw [HS.out]; simp)).trans HC.out
      have hhw := HH.out
      go_wp2_with fail
      clear hcw hhw
      obtain ⟨wo, hwo⟩ : ∃ wo : World, wo = wr := ⟨_, rfl⟩
      rw [← hwo] at hown hB
      rw [← hwo]
      clear hwo
      go_loopw [5, 8, 9] (fun v lo i wr => ∃ k m : Nat, k ≤ 64 ∧ i = .int .i64 k ∧ lo = .int .u64 m ∧ Hid (m = H / 2 ^ k) ∧ m ≤ 18446744073709551615 ∧ wr.ownsRow W1.heap.size 3 1 v (64 + k) ((bl L 64 ++ bl H k).map vi) ∧ Below W1.heap.size W1 wr) (fun _ _ i _ => 64 - (intOf i).toNat)
      case atStart => exact ⟨0, H, by omega, rfl, rfl, Lib.hid (by simp), hHb, by simpa [bl] using hown, hB⟩
      case round =>
        clear hown hB hm hmb
        obtain ⟨k, m, hk, rfl, rfl, hm, hmb, hown, hB⟩ := hrel
        have hbs := hB.size
        by_cases hlt : k < 64
        · go_wp2_with (at_builtin; refine app_own (w0 := W1) W1.heap.size rfl (.tmp 32) (.tmp 36) 70 3 (.int .i64 0) 1 8 rfl Tryz.underlying70 infoInt rfl (by decide) (by decide) _ (64 + k) _ [.int .i64 (m % 2)] rfl rfl rfl (by simp [Value.oneCell']) hown hB hbs (by omega) ?_; intro v1 w1 hown1 hB1' hg1 hloc hsz1)
          go_roundw
          case rel =>
            have hm2 : m % 2 = H / 2 ^ k % 2 := by rw [hm.out]
            refine ⟨k + 1, m / 2, by omega, by go_num, by go_num, Lib.hid ?_, by omega, ?_, hB1'⟩
            · rw [hm.out, Nat.pow_succ, Nat.div_div_eq_div_mul]
            · rw [bl_succ H k, ← List.append_assoc, List.map_append, ← hm2]; exact hown1
          case measure => simp [intOf]; omega
        · have hk64 : k = 64 := by omega
          rw [hk64] at hown
          clear hk64
          go_wp2_with fail
          obtain ⟨wo, hwo⟩ : ∃ wo : World, wo = wr := ⟨_, rfl⟩
          rw [← hwo] at hown hB
          rw [← hwo]
          clear hwo
          go_loopw [5, 10] (fun v i wr => ∃ k : Nat, k ≤ more ∧ i = .int .i64 k ∧ wr.ownsRow W1.heap.size 3 1 v (128 + k) ((bl L 64 ++ (bl H 64 ++ List.replicate k ((H / 2 ^ 63 % 2 : Nat) : Int))).map vi) ∧ Below W1.heap.size W1 wr) (fun _ i _ => more - (intOf i).toNat)
          case atStart => exact ⟨0, by omega, rfl, by simpa using hown, hB⟩
          case round =>
            clear hown hB hm hmb
            obtain ⟨k, hk, rfl, hown, hB⟩ := hrel
            have hbs := hB.size
            have hown0 := hown
            obtain ⟨g, cap, rfl, hgb, hgc, hgm, hgl, hcells⟩ := own_some hown (by omega)
            have hc127 : wr.cell? ⟨g, 127, none⟩ = some (.int .i64 ((H / 2 ^ 63 % 2 : Nat) : Int)) := hcells 127 _ (by
              rw [List.getElem?_map, List.getElem?_append_right (by rw [bl_length]; omega), bl_length, List.getElem?_append_left (by rw [bl_length]; omega)]
              simp [bl, vi])
            obtain ⟨q, hq⟩ : ∃ q : Nat, q = H / 2 ^ 63 % 2 := ⟨_, rfl⟩
            rw [← hq] at hc127 hown0
            have HQ := Lib.hid hq
            clear hq hcells hown
            by_cases hlt : k < more
            · go_wp2_with (at_builtin; refine app_own (w0 := W1) W1.heap.size rfl (.tmp 45) (.tmp 49) 70 3 (.int .i64 0) 1 8 rfl Tryz.underlying70 infoInt rfl (by decide) (by decide) _ (128 + k) _ [.int .i64 q] rfl rfl rfl (by simp [Value.oneCell']) hown0 hB hbs (by omega) ?_; intro v1 w1 hown1 hB1' hg1 hloc hsz1)
              go_roundw
              case rel =>
                refine ⟨k + 1, by omega, by go_num, ?_, hB1'⟩
                rw [← HQ.out, List.replicate_succ', ← List.append_assoc, ← List.append_assoc, List.map_append, List.append_assoc]
                exact hown1
              case measure => simp [intOf]; omega
            · have hkm : k = more := by omega
              go_wp2
              go_ret
              subst hkm
              refine ⟨_, rfl, ?_, ?_⟩
              · rw [← HQ.out]; exact own_weaken' hown0 (by rw [HS.out]; omega)
              · exact below_then' hB1 (by rw [HS.out]; omega) hB

/-! ### the sum of bits -/
def sumB : List Int → List Int → Int → List Int
  | x :: xs, y :: ys, c => (x + y + c) % 2 :: sumB xs ys ((x + y + c) / 2)
  | _, _, _ => []
def B01 (xs : List Int) : Prop := ∀ x ∈ xs, 0 ≤ x ∧ x ≤ 1
theorem sumB_step (xs ys : List Int) (k : Nat) (c x y : Int) (hx : xs[k]? = some x) (hy : ys[k]? = some y) : sumB (xs.drop k) (ys.drop k) c = [(x + y + c) % 2] ++ sumB (xs.drop (k + 1)) (ys.drop (k + 1)) ((x + y + c) / 2) := by
  obtain ⟨h1, rfl⟩ := List.getElem?_eq_some_iff.1 hx
  obtain ⟨h2, rfl⟩ := List.getElem?_eq_some_iff.1 hy
  rw [List.drop_eq_getElem_cons h1, List.drop_eq_getElem_cons h2]
  rfl

set_option maxRecDepth 100000 in
set_option maxHeartbeats 1000000 in
theorem sum_any (va vb : Value) (xs ys : List Int) (c : Int) (w : World) (ha : SlAt (K1 vi) 1 w va xs) (hb : SlAt (K1 vi) 1 w vb ys) (hlen : ys.length = xs.length) (hp : 0 < xs.length) (hl : xs.length ≤ 1000) (h1 : B01 xs) (h2 : B01 ys) (hc0 : 0 ≤ c) (hc1 : c ≤ 1) :
    Calls Tryz.prog 42 #[va, vb, .int .i64 c] w fun e w' => ∃ v, e = .returned v ∧ w'.ownsRow w.heap.size 3 1 v xs.length ((sumB xs ys c).map vi) ∧ Below w.heap.size w w' := by
  obtain ⟨ba, oa, ca, rfl, _, _, hlta, hca⟩ := ha.one hp
  obtain ⟨bb, ob, cb, rfl, _, _, hltb, hcb⟩ := hb.one (by omega)
  clear ha hb
  have HL := Lib.hid hlen
  have H1 := Lib.hid h1
  have H2 := Lib.hid h2
  have HA := Lib.hid hca
  have HB := Lib.hid hcb
  clear hlen h1 h2 hca hcb
  go_enter Tryz.func42, Tryz.ntmps42
  go_wp2_with fail
  go_loopw [7, 8, 9] (fun v cv i wr => ∃ (k : Nat) (c' : Int) (out : List Int), k ≤ xs.length ∧ i = .int .i64 k ∧ cv = .int .i64 c' ∧ 0 ≤ c' ∧ c' ≤ 1 ∧ Hid (sumB xs ys c = out ++ sumB (xs.drop k) (ys.drop k) c') ∧ wr.ownsRow w.heap.size 3 1 v k (out.map vi) ∧ Below w.heap.size w wr) (fun _ _ i _ => xs.length - (intOf i).toNat)
  case atStart => exact ⟨0, c, [], by omega, rfl, rfl, hc0, hc1, Lib.hid (by simp), own_nil' _ _ _ _, Below.refl _ _⟩
  case round =>
    clear hc0 hc1
    obtain ⟨k, c', out, hk, rfl, rfl, hc0, hc1, hs, hown, hB⟩ := hrel
    have hbs := hB.size
    by_cases hlt : k < xs.length
    · obtain ⟨x, hx⟩ : ∃ x, xs[k]? = some x := ⟨_, List.getElem?_eq_getElem hlt⟩
      obtain ⟨y, hy⟩ : ∃ y, ys[k]? = some y := ⟨_, List.getElem?_eq_getElem (by rw [HL.out]; exact hlt)⟩
      have hxb := H1.out x (List.mem_of_getElem? hx)
      have hyb := H2.out y (List.mem_of_getElem? hy)
      have hcx := (hB.cell (p := ⟨ba, oa + k, none⟩) hlta).trans (HA.out k x hx)
      have hcy := (hB.cell (p := ⟨bb, ob + k, none⟩) hltb).trans (HB.out k y hy)
      have HX := Lib.hid hx
      have HY := Lib.hid hy
      have hlt2 : (k : Int) < ys.length := by rw [HL.out]; omega
      clear hx hy
      unfold vi at hcx hcy
      go_wp2_with fail
      go_quiet (fail)
      have hown2 : (wr.drewN nq).ownsRow w.heap.size 3 1 _ k (out.map vi) := hown
      have hB2 := below_drewN' hB nq
      have hbs2 := hB2.size
      generalize wr.drewN nq = W2 at hown2 hB2 hbs2 ⊢
      go_wp2_with (at_builtin; refine app_own (w0 := w) w.heap.size rfl (.tmp 29) (.tmp 32) 70 3 (.int .i64 0) 1 8 rfl Tryz.underlying70 infoInt rfl (by decide) (by decide) _ k _ [.int .i64 ((x + y + c') % 2)] rfl rfl rfl (by simp [Value.oneCell']) hown2 hB2 hbs2 (by omega) ?_; intro v1 w1 hown1 hB1' hg1 hloc hsz1)
      refine ⟨⟨k + 1, (x + y + c') / 2, out ++ [(x + y + c') % 2], by omega, by go_num, rfl, by omega, by omega, Lib.hid ?_, ?_, hB1'⟩, by simp [intOf]; omega⟩
      · rw [hs.out, sumB_step xs ys k c' x y HX.out HY.out, List.append_assoc]
      · rw [List.map_append]; exact hown1
    · have hkl : k = xs.length := by omega
      go_wp2_with fail
      go_ret
      refine ⟨_, rfl, ?_, hB⟩
      have he : sumB xs ys c = out := by
        rw [hs.out, hkl, List.drop_length]
        simp [sumB]
      rw [he, ← hkl]
      exact hown

/-! ### the number of bits -/
def val : List Int → Int
  | [] => 0
  | x :: xs => x + 2 * val xs
theorem val_range : ∀ (l : List Int), B01 l → 0 ≤ val l ∧ val l < 2 ^ l.length
  | [], _ => by simp [val]
  | x :: l, h => by
    have ih := val_range l (fun y hy => h y (List.mem_cons_of_mem _ hy))
    have hx := h x (List.mem_cons_self ..)
    simp only [val, List.length_cons, Int.pow_succ]
    omega
theorem val_append : ∀ (a b : List Int), val (a ++ b) = val a + 2 ^ a.length * val b
  | [], b => by simp [val]
  | x :: a, b => by
    rw [List.cons_append, val, val, val_append a b, List.length_cons, Int.pow_succ, Int.mul_add, ← Int.mul_assoc, Int.mul_comm 2 (2 ^ a.length)]
    omega
theorem B01_drop {l : List Int} (h : B01 l) (k : Nat) : B01 (l.drop k) := fun x hx => h x (List.mem_of_mem_drop hx)
theorem B01_take {l : List Int} (h : B01 l) (k : Nat) : B01 (l.take k) := fun x hx => h x (List.mem_of_mem_take hx)
theorem val_small {l : List Int} (h : B01 l) (n : Nat) (hn : l.length ≤ n) : 0 ≤ val l ∧ val l < 2 ^ n := by
  have h1 := val_range l h
  have h2 : (2 : Int) ^ l.length ≤ 2 ^ n := by
    have := Nat.pow_le_pow_right (n := 2) (by omega) hn
    exact_mod_cast this
  omega

/-- what the number of 130 bits is -/
def numB (l : List Int) : Value :=
  if l.getD 128 0 = l.getD 127 0 ∧ l.getD 129 0 = l.getD 127 0 then .tuple #[.agg #[.int .i64 (IntKind.i64.wrap (val ((l.drop 64).take 64))), .int .u64 (val (l.take 64))], .bool true]
  else .tuple #[.agg #[.int .i64 0, .int .u64 0], .bool false]

set_option maxRecDepth 100000 in
set_option maxHeartbeats 1000000 in
theorem number_any (va : Value) (xs : List Int) (w : World) (ha : SlAt (K1 vi) 1 w va xs) (hlen : xs.length = 130) (h1 : B01 xs) :
    Calls Tryz.prog 41 #[va] w fun e w' => e = .returned (numB xs) ∧ Below w.heap.size w w' := by
  obtain ⟨ba, oa, ca, rfl, _, _, hlta, hca⟩ := ha.one (by omega)
  clear ha
  rw [hlen]
  have HL := Lib.hid hlen
  have H1 := Lib.hid h1
  have hall : ∀ j, j < 130 → ∃ x, xs[j]? = some x ∧ 0 ≤ x ∧ x ≤ 1 ∧ w.cell? ⟨ba, oa + j, none⟩ = some (.int .i64 x) := fun j hj => by
    have hx := List.getElem?_eq_getElem (l := xs) (i := j) (by omega)
    have := h1 _ (List.mem_of_getElem? hx)
    exact ⟨_, hx, this.1, this.2, hca _ _ hx⟩
  have HA := Lib.hid hall
  clear hlen h1 hca hall
  obtain ⟨x127, e127, b127, b127', c127⟩ := HA.out 127 (by omega)
  have hcell : ∀ W : World, Below w.heap.size w W → W.cell? ⟨ba, oa + 127, none⟩ = some (.int .i64 x127) := fun W hW => (hW.cell (p := ⟨ba, oa + 127, none⟩) hlta).trans c127
  have HC := Lib.hid hcell
  have HE := Lib.hid e127
  clear e127 hcell
  go_enter Tryz.func41, Tryz.ntmps41
  go_wp2_with fail
  obtain ⟨W1, hW1⟩ : ∃ W1, W1 = w.alloc (.cells #[.int .i64 0, .int .u64 0] 41) := ⟨_, rfl⟩
  rw [← hW1]
  have hsz : W1.heap.size = w.heap.size + 1 := by rw [hW1]; simp
  have hblk : W1.heap[w.heap.size]? = some (.cells #[.int .i64 0, .int .u64 0] 41 (0, 0)) := by rw [hW1]; exact heap_alloc_new _ _
  have hB1 : Below w.heap.size w W1 := by rw [hW1]; exact (Below.refl _ _).alloc (Nat.le_refl _) _
  have HS := Lib.hid hsz
  have HK := Lib.hid hblk
  clear hW1 hsz hblk
  go_loopw [4] (fun i wr => ∃ (k n : Nat), 128 ≤ k ∧ k ≤ 130 ∧ i = .int .i64 k ∧ wr = W1.drewN n ∧ Hid (∀ j, 128 ≤ j → j < k → xs.getD j 0 = x127)) (fun i _ => 130 - (intOf i).toNat)
  case atStart => exact ⟨128, 0, by omega, by omega, rfl, rfl, Lib.hid (fun j h1 h2 => by omega)⟩
  case round =>
    obtain ⟨k, n, hk1, hk2, rfl, rfl, hs⟩ := hrel
    have hB2 := below_drewN' hB1 n
    have hblk2 : (W1.drewN n).heap[w.heap.size]? = some (.cells #[.int .i64 0, .int .u64 0] 41 (0, 0)) := HK.out
    have hsz2 : (W1.drewN n).heap.size = w.heap.size + 1 := HS.out
    have HK2 := Lib.hid hblk2
    have HS2 := Lib.hid hsz2
    clear hblk2 hsz2
    obtain ⟨W2, hW2⟩ : ∃ W2, W2 = W1.drewN n := ⟨_, rfl⟩
    rw [← hW2] at hB2 HK2 HS2 ⊢
    have hnn : ∀ q, W2.drewN q = W1.drewN (n + q) := fun q => by rw [hW2, World.drewN_drewN]
    have HN := Lib.hid hnn
    clear hW2 hnn
    have h127 := HC.out _ hB2
    have hz0 : W2.cell? ⟨w.heap.size, 0, none⟩ = some (.int .i64 0) := by unfold World.cell?; rw [HK2.out]; rfl
    have hz1 : W2.cell? ⟨w.heap.size, 1, none⟩ = some (.int .u64 0) := by unfold World.cell?; rw [HK2.out]; rfl
    have hf0 : W2.frozen? ⟨w.heap.size, 0, none⟩ = false := by unfold World.frozen?; rw [HK2.out]; rfl
    have hf1 : W2.frozen? ⟨w.heap.size, 1, none⟩ = false := by unfold World.frozen?; rw [HK2.out]; rfl
    by_cases hlt : k < 130
    · obtain ⟨x, ex, bx, bx', cx⟩ := HA.out k hlt
      have hxk := (hB2.cell (p := ⟨ba, oa + k, none⟩) hlta).trans cx
      have HX := Lib.hid ex
      clear ex cx
      have hki : (k : Int) < 130 := by omega
      by_cases hq : x = x127
      · subst hq
        go_wp2_with fail
        go_quiet (fail)
        go_wp2_with fail
        refine ⟨⟨k + 1, n + nq, by omega, by omega, by go_num, HN.out nq, Lib.hid ?_⟩, by simp [intOf]; omega⟩
        intro j h1 h2
        rcases Nat.lt_or_ge j k with h | h
        · exact hs.out j h1 h
        · obtain rfl : j = k := by omega
          rw [List.getD_eq_getElem?_getD, HX.out]; rfl
      · have hq2 : (x != x127) = true := by simpa using hq
        go_wp2_with fail
        go_quiet (fail)
        go_wp2_with fail
        refine ret_ct rfl w.heap.size 41 #[.int .i64 0, .int .u64 0] (0, 0) _ rfl (blk_set' (blk_set' (w := W2.drewN nq) HK2.out 0 _) 1 _) Tryz.underlying41 rfl (by kernel_rfl) rfl ⟨?_, ((below_drewN' hB2 nq).setCell (Nat.le_refl _) _).setCell (Nat.le_refl _) _⟩
        have hne : ¬ (xs.getD 128 0 = xs.getD 127 0 ∧ xs.getD 129 0 = xs.getD 127 0) := by
          rw [List.getD_eq_getElem?_getD (l := xs) (i := 127), HE.out]
          intro h
          have h2 : xs.getD k 0 = x127 := by
            have : k = 128 ∨ k = 129 := by omega
            rcases this with rfl | rfl
            · exact h.1
            · exact h.2
          rw [List.getD_eq_getElem?_getD, HX.out] at h2
          exact hq h2
        rw [numB, if_neg hne]
        rfl
    · have hk130 : k = 130 := by omega
      have hyes : xs.getD 128 0 = xs.getD 127 0 ∧ xs.getD 129 0 = xs.getD 127 0 := by
        have e7 : xs.getD 127 0 = x127 := by rw [List.getD_eq_getElem?_getD, HE.out]; rfl
        rw [e7]
        exact ⟨hs.out 128 (by omega) (by omega), hs.out 129 (by omega) (by omega)⟩
      have HY := Lib.hid hyes
      clear hyes hk130
      go_wp2_with fail
      go_loop [5, 6, 7] (fun lo hi i => ∃ (r : Nat), r ≤ 64 ∧ i = .int .i64 (63 - r) ∧ lo = .int .u64 (val ((xs.take 64).drop (64 - r))) ∧ hi = .int .u64 (val (((xs.drop 64).take 64).drop (64 - r)))) (fun _ _ i => (intOf i + 1).toNat)
      case atStart => exact ⟨0, by omega, rfl, by rw [List.drop_eq_nil_of_le (by simp; omega)]; rfl, by rw [List.drop_eq_nil_of_le (by simp; omega)]; rfl⟩
      case round =>
        obtain ⟨r, hr, rfl, rfl, rfl⟩ := hrel
        by_cases hlt2 : r < 64
        · obtain ⟨x, ex, bx, bx', cx⟩ := HA.out (63 - r) (by omega)
          obtain ⟨y, ey, by_, by', cy⟩ := HA.out (64 + (63 - r)) (by omega)
          have hxk := (hB2.cell (p := ⟨ba, oa + (63 - r), none⟩) hlta).trans cx
          have hyk := (hB2.cell (p := ⟨ba, oa + (64 + (63 - r)), none⟩) hlta).trans cy
          have e1 : (xs.take 64).drop (63 - r) = x :: (xs.take 64).drop (64 - r) := by
            rw [List.drop_eq_getElem_cons (by simp; have := HL.out; omega), show 63 - r + 1 = 64 - r by omega]
            congr 1
            obtain ⟨h, rfl⟩ := List.getElem?_eq_some_iff.1 ex
            simp
          have e2 : ((xs.drop 64).take 64).drop (63 - r) = y :: ((xs.drop 64).take 64).drop (64 - r) := by
            rw [List.drop_eq_getElem_cons (by simp; have := HL.out; omega), show 63 - r + 1 = 64 - r by omega]
            congr 1
            obtain ⟨h, rfl⟩ := List.getElem?_eq_some_iff.1 ey
            simp
          have E1 := Lib.hid e1
          have E2 := Lib.hid e2
          have v1 := val_small (B01_drop (B01_take H1.out 64) (64 - r)) 63 (by simp; omega)
          have v2 := val_small (B01_drop (B01_take (B01_drop H1.out 64) 64) (64 - r)) 63 (by simp; omega)
          obtain ⟨m1, hm1⟩ : ∃ m, m = val ((xs.take 64).drop (64 - r)) := ⟨_, rfl⟩
          obtain ⟨m2, hm2⟩ : ∃ m, m = val (((xs.drop 64).take 64).drop (64 - r)) := ⟨_, rfl⟩
          rw [← hm1] at v1
          rw [← hm2] at v2
          rw [← hm1, ← hm2]
          have M1 := Lib.hid hm1
          have M2 := Lib.hid hm2
          have b1 : 0 ≤ m1 ∧ m1 ≤ 9223372036854775807 := by omega
          have b2 : 0 ≤ m2 ∧ m2 ≤ 9223372036854775807 := by omega
          have ha1 : ((63 : Int) - (r : Int)).toNat = 63 - r := by omega
          have ha2 : ((64 : Int) + (63 - (r : Int))).toNat = 64 + (63 - r) := by omega
          clear e1 e2 ex ey cx cy hm1 hm2 v1 v2
          go_wp2_with fail
          refine ⟨⟨r + 1, by omega, by go_num, ?_, ?_⟩, by simp [intOf]; omega⟩
          · rw [show 64 - (r + 1) = 63 - r by omega, E1.out, val, ← M1.out]; congr 1; omega
          · rw [show 64 - (r + 1) = 63 - r by omega, E2.out, val, ← M2.out]; congr 1; omega
        · have hr64 : r = 64 := by omega
          go_wp2_with fail
          refine ret_ct rfl w.heap.size 41 #[.int .i64 (IntKind.i64.wrap (val ((xs.drop 64).take 64))), .int .u64 (val (xs.take 64))] (0, 0) _ rfl ?_ Tryz.underlying41 rfl (by kernel_rfl) rfl ⟨?_, (hB2.setCell (Nat.le_refl _) _).setCell (Nat.le_refl _) _⟩
          · have := blk_set' (blk_set' HK2.out 0 (.int .i64 (IntKind.i64.wrap (val ((xs.drop 64).take 64))))) 1 (.int .u64 (val (xs.take 64)))
            rw [i64w] at this ⊢
            simpa [wrap64] using this
          · rw [numB, if_pos HY.out]
            rfl

theorem val_bl (x : Nat) : ∀ k, val (bl x k) = ((x % 2 ^ k : Nat) : Int)
  | 0 => by simp [bl, val, Nat.mod_one]
  | k + 1 => by
    rw [bl_succ, val_append, val_bl x k, bl_length, Nat.mod_pow_succ]
    simp [val]
theorem bl_B01 (x k : Nat) : B01 (bl x k) := by
  intro y hy
  simp only [bl, List.mem_map, List.mem_range] at hy
  obtain ⟨i, _, rfl⟩ := hy
  omega
theorem bitsOf_B01 (n : Int) (m : Nat) : B01 (bitsOf n m) := by
  intro y hy
  simp only [bitsOf, List.mem_append, List.mem_replicate] at hy
  rcases hy with h | h | ⟨_, rfl⟩
  · exact bl_B01 _ _ y h
  · exact bl_B01 _ _ y h
  · omega
theorem bitsOf_length (n : Int) (m : Nat) : (bitsOf n m).length = 128 + m := by simp [bitsOf, bl_length]; omega
theorem sumB_length : ∀ (xs ys : List Int) (c : Int), ys.length = xs.length → (sumB xs ys c).length = xs.length
  | [], [], _, _ => rfl
  | _ :: xs, _ :: ys, _, h => by simp only [sumB, List.length_cons]; rw [sumB_length xs ys _ (by simpa using h)]
  | [], _ :: _, _, h => by simp at h
  | _ :: _, [], _, h => by simp at h
theorem sumB_val : ∀ (xs ys : List Int) (c : Int), ys.length = xs.length → B01 xs → B01 ys → 0 ≤ c → c ≤ 1 →
    B01 (sumB xs ys c) ∧ ∃ d, 0 ≤ d ∧ d ≤ 1 ∧ val (sumB xs ys c) + 2 ^ xs.length * d = val xs + val ys + c
  | [], [], c, _, _, _, h0, h1 => ⟨by simp [sumB, B01], c, h0, h1, by simp [sumB, val]⟩
  | x :: xs, y :: ys, c, h, hx, hy, h0, h1 => by
    have bx := hx x (List.mem_cons_self ..)
    have by_ := hy y (List.mem_cons_self ..)
    obtain ⟨ih1, d, d0, d1, e⟩ := sumB_val xs ys ((x + y + c) / 2) (by simpa using h) (fun z hz => hx z (List.mem_cons_of_mem _ hz)) (fun z hz => hy z (List.mem_cons_of_mem _ hz)) (by omega) (by omega)
    refine ⟨?_, d, d0, d1, ?_⟩
    · intro z hz
      simp only [sumB, List.mem_cons] at hz
      rcases hz with rfl | hz
      · omega
      · exact ih1 z hz
    · simp only [sumB, val, List.length_cons, Int.pow_succ]
      have e2 : (2 : Int) ^ xs.length * 2 * d = 2 * (2 ^ xs.length * d) := by rw [Int.mul_comm (2 ^ xs.length) 2, Int.mul_assoc]
      rw [e2]
      omega
  | [], _ :: _, _, h, _, _, _, _ => by simp at h
  | _ :: _, [], _, h, _, _, _, _ => by simp at h

/-- a list of 130 bits: its number by parts -/
theorem val_parts (l : List Int) (hl : l.length = 130) : val l = val (l.take 64) + 18446744073709551616 * (val ((l.drop 64).take 64)) + 340282366920938463463374607431768211456 * (l.getD 128 0 + 2 * l.getD 129 0) ∧
    (B01 l → ∃ h, 0 ≤ h ∧ h < 9223372036854775808 ∧ val ((l.drop 64).take 64) = h + 9223372036854775808 * l.getD 127 0) := by
  have e1 : l = l.take 64 ++ ((l.drop 64).take 64 ++ l.drop 128) := by
    conv => lhs; rw [← List.take_append_drop 64 l, ← List.take_append_drop 64 (l.drop 64)]
    simp
  have e2 : l.drop 128 = [l.getD 128 0, l.getD 129 0] := by
    have h8 : 128 < l.length := by omega
    have h9 : 129 < l.length := by omega
    rw [List.drop_eq_getElem_cons h8, List.drop_eq_getElem_cons h9, List.drop_eq_nil_of_le (by omega)]
    simp [List.getD_eq_getElem?_getD, h8, h9]
  have e3 : (l.drop 64).take 64 = (l.drop 64).take 63 ++ [l.getD 127 0] := by
    rw [List.take_succ_eq_append_getElem (by simp; omega)]
    simp [List.getD_eq_getElem?_getD, hl]
  constructor
  · conv => lhs; rw [e1]
    rw [val_append, val_append, e2, List.length_take, List.length_take, List.length_drop, hl]
    simp only [val]
    have p1 : (2 : Int) ^ min 64 130 = 18446744073709551616 := by decide
    have p2 : (2 : Int) ^ min 64 (130 - 64) = 18446744073709551616 := by decide
    rw [p1, p2]
    omega
  · intro hb
    have hr := val_range ((l.drop 64).take 63) (B01_take (B01_drop hb 64) 63)
    rw [List.length_take, List.length_drop, hl] at hr
    have p1 : (2 : Int) ^ min 63 (130 - 64) = 9223372036854775808 := by decide
    rw [p1] at hr
    refine ⟨val ((l.drop 64).take 63), hr.1, hr.2, ?_⟩
    rw [e3, val_append, List.length_take, List.length_drop, hl, p1]
    simp [val]
theorem bits_val (n : Int) (h : wOk n = true) : val (bitsOf n 2) = n % 1361129467683753853853498429727072845824 := by
  rw [wOk_iff] at h
  have e : bitsOf n 2 = bl (wLo n).toNat 64 ++ (bl (IntKind.u64.wrap (wHi n)).toNat 64 ++ List.replicate 2 (((IntKind.u64.wrap (wHi n)).toNat / 2 ^ 63 % 2 : Nat) : Int)) := rfl
  rw [e, val_append, val_append, val_bl, val_bl, bl_length, bl_length]
  have p1 : (2 : Int) ^ 64 = 18446744073709551616 := by decide
  have p2 : (2 : Nat) ^ 64 = 18446744073709551616 := by decide
  have p3 : (2 : Nat) ^ 63 = 9223372036854775808 := by decide
  rw [p1, p2, p3, u64w]
  simp only [List.replicate, val, wLo, wHi]
  omega

theorem add_num (a b : Int) (ha : wOk a = true) (hb : wOk b = true) : numB (sumB (bitsOf a 2) (bitsOf b 2) 0) = wRes (a + b) := by
  have hl : (sumB (bitsOf a 2) (bitsOf b 2) 0).length = 130 := by rw [sumB_length _ _ _ (by rw [bitsOf_length, bitsOf_length]), bitsOf_length]
  obtain ⟨hB, d, d0, d1, e⟩ := sumB_val (bitsOf a 2) (bitsOf b 2) 0 (by rw [bitsOf_length, bitsOf_length]) (bitsOf_B01 a 2) (bitsOf_B01 b 2) (by omega) (by omega)
  rw [bits_val a ha, bits_val b hb, bitsOf_length, show (2 : Int) ^ (128 + 2) = 1361129467683753853853498429727072845824 by decide] at e
  generalize sumB (bitsOf a 2) (bitsOf b 2) 0 = l at hl hB e
  obtain ⟨v1, v2⟩ := val_parts l hl
  obtain ⟨h, h0, h1, v3⟩ := v2 hB
  have hlo := val_small (B01_take hB 64) 64 (by simp; omega)
  have bb : ∀ j, j < 130 → 0 ≤ l.getD j 0 ∧ l.getD j 0 ≤ 1 := fun j hj => by
    rw [List.getD_eq_getElem?_getD, List.getElem?_eq_getElem (by omega)]
    exact hB _ (List.getElem_mem _)
  have b7 := bb 127 (by omega)
  have b8 := bb 128 (by omega)
  have b9 := bb 129 (by omega)
  rw [show (2 : Int) ^ 64 = 18446744073709551616 by decide] at hlo
  rw [wOk_iff] at ha hb
  unfold numB
  generalize val (List.take 64 l) = lo at *
  generalize val (List.take 64 (List.drop 64 l)) = hi at *
  generalize l.getD 127 0 = x7 at *
  generalize l.getD 128 0 = x8 at *
  generalize l.getD 129 0 = x9 at *
  by_cases hc : x8 = x7 ∧ x9 = x7
  · rw [if_pos hc]
    have hok : wOk (a + b) = true := by rw [wOk_iff]; omega
    rw [wRes_yes hok (h := IntKind.i64.wrap hi) (l := lo)]
    · rw [i64w]; unfold wHi; omega
    · unfold wLo; omega
  · rw [if_neg hc]
    have hok : wOk (a + b) = false := by rw [Bool.eq_false_iff, ne_eq, wOk_iff]; omega
    rw [wRes_no hok]
end Go.Proofs.YtgjlgpaoilaikaaGreatDoor
