/-
  Layers 2 and 4: the program's wide.Sub, vector.Right, Within.
-/
import Derived.Test.YtgjlgpaoilaikaaGreatDoorV2
import Derived.Test.YtgjlgpaoilaikaaGreatDoorBase3
namespace Go.Proofs.YtgjlgpaoilaikaaGreatDoor
open Go.RowKit

set_option maxRecDepth 100000 in
set_option maxHeartbeats 400000 in
theorem wsub_any (a b : Int) (w : World) (ha : wOk a = true) (hb : wOk b = true) :
    Calls Tryz.prog 40 #[wV a, wV b] w fun e w' => e = .returned (wRes (a - b)) ∧ Below w.heap.size w w' := by
  unfold wV
  have la := wLo_range a
  have lb := wLo_range b
  have ua := uw_range (wHi a)
  have ub := uw_range (wHi b)
  have hc := b64_range (wLo a) (wLo b) 0
  have h1 := sub64_run (wLo a) (wLo b) 0 la.1 lb.1 lb.2 (by omega) (by omega)
  have h2 := sub64_run (IntKind.u64.wrap (wHi a)) (IntKind.u64.wrap (wHi b)) (b64 (wLo a) (wLo b) 0) ua.1 ub.1 ub.2 hc.1 hc.2
  have hp := Lib.hid (rsub_pure a b ha hb)
  have hr : IntKind.i64.wrap (d64 (IntKind.u64.wrap (wHi a)) (IntKind.u64.wrap (wHi b)) (b64 (wLo a) (wLo b) 0)) = rSub a b := rfl
  clear la lb ua ub hc ha hb
  by_cases hA : wHi a < 0 <;> by_cases hB : wHi b < 0 <;> by_cases hR : rSub a b < 0
  all_goals
    go_enter Tryz.func40, Tryz.ntmps40
    go_wp2_with fail
    first
      | (have hn : wOk (a - b) = false := hp.out.2.2 (by omega)
         rw [wRes_no hn]
         exact bodyPost_ret (v := .tuple #[.agg #[.int .i64 0, .int .u64 0], .bool false]) (by simp [results, Tryz.results40, go_sem]) rfl ⟨rfl, ((((Below.refl _ _).alloc (Nat.le_refl _) _).alloc (by simp) _).alloc (by simp; omega) _).alloc (by simp; omega) _⟩)
      | (have hn : wOk (a - b) = true := by rw [← Bool.not_eq_false]; intro h; have := hp.out.2.1 h; omega
         rw [wRes_yes hn (hp.out.1 hn).1 (hp.out.1 hn).2]
         exact bodyPost_ret (v := .tuple #[.agg #[.int .i64 (rSub a b), .int .u64 (d64 (wLo a) (wLo b) 0)], .bool true]) (by simp [results, Tryz.results40, go_sem]) rfl ⟨rfl, ((((Below.refl _ _).alloc (Nat.le_refl _) _).alloc (by simp) _).alloc (by simp; omega) _).alloc (by simp; omega) _⟩)

theorem blk3 {w : World} {g : Nat} {t : TypeId} {a b c : Value} (h : w.heap[g]? = some (.cells #[a, b, c] t (0, 0))) : w.cell? ⟨g, 0, none⟩ = some a ∧ w.cell? ⟨g, 1, none⟩ = some b ∧ w.cell? ⟨g, 2, none⟩ = some c :=
  ⟨blk_cell' h 0, blk_cell' h 1, blk_cell' h 2⟩
theorem right_is (s : ByteArray) (r : Bool) (w : World) (hs : s.size ≤ 9223372036854775807) (hr : lblB s = r) :
    Calls Tryz.prog 24 #[.string s] w fun e w' => e = .returned (.bool r) ∧ Below w.heap.size w w' := by rw [← hr]; exact right_any s w hs
theorem rright_is (s : ByteArray) (r : Bool) (w : World) (hs : s.size ≤ 9223372036854775807) (hr : lblB s = r) :
    Calls Tryz.prog 28 #[.string s] w fun e w' => e = .returned (.bool r) ∧ w = w' := by rw [← hr]; exact rright_any s w hs
/-! ### whether a vector may be -/
def riseB (p : Option ByteArray) (s : ByteArray) : Bool := match p with | none => true | some q => slt q s
def vRightGo : Option ByteArray → List Ent → Bool
  | _, [] => true
  | p, x :: xs => lblB x.name && !(decide (x.n = 0)) && riseB p x.name && vRightGo (some x.name) xs
def vRight (xs : List Ent) : Bool := vRightGo none xs
def prevB (xs : List Ent) (k : Nat) : Option ByteArray := if k = 0 then none else (xs[k - 1]?).map Ent.name
theorem vRight_step {xs : List Ent} {k : Nat} {x : Ent} (hx : xs[k]? = some x) : vRightGo (prevB xs k) (xs.drop k) = (lblB x.name && !(decide (x.n = 0)) && riseB (prevB xs k) x.name && vRightGo (prevB xs (k + 1)) (xs.drop (k + 1))) := by
  obtain ⟨h, rfl⟩ := List.getElem?_eq_some_iff.1 hx
  have : prevB xs (k + 1) = some xs[k].name := by simp [prevB, h]
  rw [this, List.drop_eq_getElem_cons h, vRightGo]
theorem zero_b (n : Int) : (wHi n == 0 && (wLo n == 0)) = decide (n = 0) := by
  rw [Bool.eq_iff_iff]
  simp only [Bool.and_eq_true, beq_iff_eq, decide_eq_true_eq]
  exact (wz n).symm

section
attribute [local go_sem high] eq_wide
set_option maxRecDepth 100000 in
set_option maxHeartbeats 2000000 in
theorem vright_any (va : Value) (xs : List Ent) (w : World) (ha : VAt w va xs) (hf : VFine xs) :
    Calls Tryz.prog 16 #[va] w fun e w' => e = .returned (.bool (vRight xs)) ∧ Below w.heap.size w w' := by
  obtain ⟨A, c, rfl, hlm, hcell⟩ := ha.each
  have HC := Lib.hid hcell
  have HF := Lib.hid hf
  clear hcell hf ha
  go_enter Tryz.func16, Tryz.ntmps16
  go_wp2_with fail
  go_loopw [7] (fun i wr => ∃ k : Nat, k ≤ xs.length ∧ i = .int .i64 k ∧ Hid (vRight xs = vRightGo (prevB xs k) (xs.drop k)) ∧ Below w.heap.size w wr) (fun i _ => xs.length - (intOf i).toNat)
  case atStart => exact ⟨0, by omega, rfl, Lib.hid rfl, Below.refl _ _⟩
  case round =>
    obtain ⟨k, hk, rfl, hs, hB⟩ := hrel
    have hbs := hB.size
    by_cases hlt : k < xs.length
    · obtain ⟨x, hx⟩ : ∃ x, xs[k]? = some x := ⟨_, List.getElem?_eq_getElem hlt⟩
      obtain ⟨b, off, rfl, c0, c1, c2⟩ := HC.out wr hB k x hx
      have hxn := (HF.out x (List.mem_of_getElem? hx)).1
      have hst := vRight_step hx
      obtain ⟨lb, hlb⟩ : ∃ lb, lblB x.name = lb := ⟨_, rfl⟩
      obtain ⟨z, hz⟩ : ∃ z, decide (x.n = 0) = z := ⟨_, rfl⟩
      obtain ⟨r, hr⟩ : ∃ r, riseB (prevB xs k) x.name = r := ⟨_, rfl⟩
      rw [hlb, hz, hr] at hst
      have hzb : (wHi x.n == 0 && (wLo x.n == 0)) = z := by rw [zero_b, hz]
      have HST := Lib.hid hst
      have HLB := Lib.hid hlb
      clear hst hlb hz
      go_upto_region 4 with (fail)
      obtain ⟨W1, hW1, HS, HK, hB1⟩ := box1 wr #[.string x.name, .int .i64 (wHi x.n), .int .u64 (wLo x.n)] 45
      rw [hW1]
      clear hW1
      obtain ⟨e0, e1, e2⟩ := blk3 HK.out
      have hBw1 := below_then' hB hbs hB1
      have HPR := Lib.hid (show 0 < k → ∃ y, xs[k - 1]? = some y ∧ W1.cell? ⟨b, off + (k - 1) * 3, none⟩ = some (.string y.name) ∧ Op.bytesLess y.name.toList x.name.toList = r from fun hp => by
        obtain ⟨y, hy⟩ : ∃ y, xs[k - 1]? = some y := ⟨_, List.getElem?_eq_getElem (by omega)⟩
        obtain ⟨_, _, e, d0, _, _⟩ := HC.out W1 hBw1 (k - 1) y hy
        cases e
        exact ⟨y, hy, d0, by rw [← hr, prevB, if_neg (by omega), hy, nm_toList, nm_toList]; rfl⟩)
      have HR0 := Lib.hid (show k = 0 → r = true from fun h0 => by rw [← hr, prevB, if_pos h0]; rfl)
      clear hx hr c0 c1 c2
      have q0 := bw_cell e0
      have q1 := bw_cell e1
      have q2 := bw_cell e2
      clear e0 e1 e2
      go_cut [36] (fun v wc => v = .bool (!(lb && !z && r)) ∧ Below w.heap.size w wc)
      case first =>
        rcases Nat.eq_zero_or_pos k with h0 | hp
        · have hr0 := HR0.out h0
          have hk0 : (0 < k) = False := by simp [h0]
          subst hr0
          clear h0
          cases lb <;> cases z
          all_goals
            refine wp_region_bw (by kernel_rfl) (by kernel_rfl) ?_
            repeat (go_big_quiet_step (first
              | (go_at_call 24; exact Calls.bw (right_is x.name _ _ hxn HLB.out))))
            refine wpQuiet_nil ?_
            intro _ hw'
            obtain ⟨⟨W2, hB2⟩, hw''⟩ := hw'
            subst hw''
            go_wp2_with fail
            go_meet
            case rel => exact ⟨rfl, below_then' hBw1 (by have := HS.out; omega) hB2⟩
        · obtain ⟨y, hy, d0, hrr⟩ := HPR.out hp
          have hkc : IntKind.i64.wrap ((k : Int) - 1) = ((k - 1 : Nat) : Int) := by rw [i64w]; omega
          have hki : (k - 1 : Nat) < xs.length := by omega
          have q3 := bw_cell d0
          clear d0 hy
          cases lb <;> cases z <;> cases r
          all_goals
            refine wp_region_bw (by kernel_rfl) (by kernel_rfl) ?_
            repeat (go_big_quiet_step (first
              | (go_at_call 24; exact Calls.bw (right_is x.name _ _ hxn HLB.out))))
            refine wpQuiet_nil ?_
            intro _ hw'
            obtain ⟨⟨W2, hB2⟩, hw''⟩ := hw'
            subst hw''
            go_wp2_with fail
            go_meet
            case rel => exact ⟨rfl, below_then' hBw1 (by have := HS.out; omega) hB2⟩
      case rest =>
        obtain ⟨rfl, hBc⟩ := hcut
        clear q0 q1 q2 hzb
        obtain ⟨g, hg⟩ : ∃ g, (lb && !z && r) = g := ⟨_, rfl⟩
        rw [hg]
        have HG := Lib.hid hg
        clear hg
        cases g
        · go_wp2_with fail
          go_ret
          exact ⟨ret_bool (by rw [hs.out, HST.out, HG.out]; rfl), hBc⟩
        · go_wp2_with fail
          refine ⟨⟨k + 1, by omega, by go_num, Lib.hid ?_, hBc⟩, by simp [intOf]; omega⟩
          rw [hs.out, HST.out, HG.out]; rfl
    · have hd : xs.drop k = [] := List.drop_eq_nil_of_le (by omega)
      have HD := Lib.hid hd
      clear hd
      go_wp2_with fail
      go_ret
      exact ⟨ret_bool (by rw [hs.out, HD.out]; rfl), hB⟩
end
end Go.Proofs.YtgjlgpaoilaikaaGreatDoor
