/-
  Layer 2: the text of a wide number: figures.
-/
import Derived.Test.YtgjlgpaoilaikaaGreatDoorV3c
namespace Go.Proofs.YtgjlgpaoilaikaaGreatDoor
open Go.RowKit

/-- a number's figures -/
def dig (m : Nat) : List UInt8 := if m < 10 then [UInt8.ofNat (48 + m)] else dig (m / 10) ++ [UInt8.ofNat (48 + m % 10)]
termination_by m
decreasing_by omega
def digP (m : Nat) : List UInt8 := if m = 0 then [] else dig m
theorem dig_step (m : Nat) : dig m = digP (m / 10) ++ [UInt8.ofNat (48 + m % 10)] := by
  rw [dig, digP]
  by_cases h : m < 10
  · rw [if_pos h, if_pos (by omega), Nat.mod_eq_of_lt h]; rfl
  · rw [if_neg h, if_neg (by omega)]
def wText (n : Int) : List UInt8 := if n < 0 then 45 :: dig n.natAbs else dig n.natAbs

theorem enc_digit (d : Nat) (h : d < 10) : Utf8.encode ((48 : Int) + (d : Int)) = ⟨#[UInt8.ofNat (48 + d)]⟩ := by
  have h1 : ((48 : Int) + (d : Int)) = ((48 + d : Nat) : Int) := by omega
  rw [h1]
  have hv : Utf8.valid ((48 + d : Nat) : Int) = true := by simp [Utf8.valid]; omega
  unfold Utf8.encode
  simp only [hv, if_true, Int.toNat_natCast]
  rw [if_pos (by omega)]

/-- Div64, its upper half being nought -/
theorem div0_any (l : Int) (w : World) (h0 : 0 ≤ l) (h1 : l ≤ 18446744073709551615) :
    Calls Tryz.prog 68 #[.int .u64 0, .int .u64 l, .int .u64 10] w fun e w' => e = .returned (.tuple #[.int .u64 (l / 10), .int .u64 (l % 10)]) ∧ ∃ n, w' = w.drewN n := by
  go_enter Tryz.func68, Tryz.ntmps68
  go_wp2
  go_quiet (fail)
  go_wp2
  go_ret2
  exact ⟨rfl, _, rfl⟩

theorem next_any (gh gl : Nat) (l : Nat) (w : World) (hne : gh ≠ gl) (hl : l ≤ 18446744073709551615)
    (hh : w.heap[gh]? = some (.cells #[.int .u64 0] 39 (0, 0))) (hlo : w.heap[gl]? = some (.cells #[.int .u64 l] 39 (0, 0))) :
    Calls Tryz.prog 67 #[.pointer (some ⟨gh, 0, none⟩), .pointer (some ⟨gl, 0, none⟩)] w fun e w' => e = .returned (.int .u8 (48 + (l % 10 : Nat))) ∧
      w'.heap[gh]? = some (.cells #[.int .u64 0] 39 (0, 0)) ∧ w'.heap[gl]? = some (.cells #[.int .u64 (l / 10 : Nat)] 39 (0, 0)) ∧ ∀ B, B ≤ gh → B ≤ gl → Below B w w' := by
  have a0 : w.cell? ⟨gh, 0, none⟩ = some (.int .u64 0) := (blk_cell' hh 0).trans rfl
  have a1 : w.cell? ⟨gl, 0, none⟩ = some (.int .u64 l) := (blk_cell' hlo 0).trans rfl
  have f0 := blk_frozen' hh 0
  have f1 := blk_frozen' hlo 0
  have HH := Lib.hid hh
  have HL := Lib.hid hlo
  clear hh hlo
  go_enter Tryz.func67, Tryz.ntmps67
  go_wp2_with (go_at_call 68; refine (div0_any _ _ (by omega) (by omega)).mono ?_; rintro e w1 ⟨rfl, q, rfl⟩)
  go_ret
  have e1 : ((l / 10 : Nat) : Int) = (l : Int) / 10 := by omega
  have e2 : ((l % 10 : Nat) : Int) = (l : Int) % 10 := by omega
  rw [e1, e2]
  refine ⟨rfl, ?_, ?_, fun B h1 h2 => (below_drewN' ((Below.refl B w).setCell (p := ⟨gh, 0, none⟩) h1 _) q).setCell (p := ⟨gl, 0, none⟩) h2 _⟩
  · exact (Below.heap_setCell _ ⟨gl, 0, none⟩ _ gh hne).trans (blk_set' HH.out 0 _)
  · exact blk_set' (((Below.heap_setCell w ⟨gh, 0, none⟩ _ gl (Ne.symm hne)).trans HL.out : ((w.setCell ⟨gh, 0, none⟩ (.int .u64 0)).drewN q).heap[gl]? = _)) 0 _

theorem enc_digit' (m : Nat) : ∃ d : ByteArray, Utf8.encode ((48 : Int) + (m : Int) % 10) = d ∧ Hid (nm d = [UInt8.ofNat (48 + m % 10)]) ∧ d.size = 1 := by
  have e : ((m : Int) % 10) = ((m % 10 : Nat) : Int) := by omega
  rw [e, enc_digit _ (by omega)]
  exact ⟨_, rfl, rfl, rfl⟩
theorem nm_app (a b : ByteArray) : nm (a ++ b) = nm a ++ nm b := by
  unfold nm
  rw [ByteArray.data_append]
  simp
theorem pow_room {a m r : Nat} (h : r * 10 ^ a ≤ m) (hr : r ≠ 0) (hm : m < 18446744073709551616) : a < 20 := by
  have h1 : 10 ^ a ≤ m := Nat.le_trans (Nat.le_mul_of_pos_left _ (by omega)) h
  rcases Nat.lt_or_ge a 20 with k | k
  · exact k
  · have h2 : 10 ^ 20 ≤ 10 ^ a := Nat.pow_le_pow_right (by omega) k
    have h3 : (10 : Nat) ^ 20 = 100000000000000000000 := by decide
    omega
theorem pow_next {a m r : Nat} (h : r * 10 ^ a ≤ m) : r / 10 * 10 ^ (a + 1) ≤ m := by
  refine Nat.le_trans ?_ h
  rw [Nat.pow_succ, Nat.mul_comm (10 ^ a) 10, ← Nat.mul_assoc]
  exact Nat.mul_le_mul_right _ (Nat.div_mul_le_self r 10)
set_option maxRecDepth 100000 in
set_option maxHeartbeats 1000000 in
/-- the figures of a number of no more than 64 bits -/
theorem wtext_any (n : Int) (w : World) (h0 : -18446744073709551616 < n) (h1 : n < 18446744073709551616) :
    Calls Tryz.prog 45 #[wV n] w fun e w' => e = .returned (.string ⟨(wText n).toArray⟩) ∧ Below w.heap.size w w' := by
  unfold wV
  go_enter Tryz.func45, Tryz.ntmps45
  go_upto_region 1 with (fail)
  obtain ⟨W1, hW1, HS, HK, hB1⟩ := box1 w #[.int .i64 (wHi n), .int .u64 (wLo n)] 41
  rw [hW1]
  clear hW1
  obtain ⟨c0, c1, _, _⟩ := blk2 HK.out
  have hsz := HS.out
  go_cut [3, 4] (fun v3 v4 wc => ∃ gh gl, v3 = .pointer (some ⟨gh, 0, none⟩) ∧ v4 = .pointer (some ⟨gl, 0, none⟩) ∧ gh ≠ gl ∧ w.heap.size < gh ∧ w.heap.size < gl ∧ Below W1.heap.size W1 wc ∧ wc.heap[gh]? = some (.cells #[.int .u64 (IntKind.u64.wrap (wHi n))] 39 (0, 0)) ∧ wc.heap[gl]? = some (.cells #[.int .u64 (wLo n)] 39 (0, 0)))
  case first =>
    go_region
    all_goals
      go_wp2_with fail
      go_meet
      case rel => first
        | exact ⟨_, _, rfl, rfl, by omega, by omega, by omega, below_drewN' (((Below.refl W1.heap.size W1).alloc (Nat.le_refl _) _).alloc (by simp) _) 1, by have := heap_alloc2_old W1 (.cells #[.int .u64 (IntKind.u64.wrap (wHi n))] 39) (.cells #[.int .u64 (wLo n)] 39); rw [hsz] at this; exact this, by have := heap_alloc2_new W1 (.cells #[.int .u64 (IntKind.u64.wrap (wHi n))] 39) (.cells #[.int .u64 (wLo n)] 39); rw [hsz] at this; exact this⟩
        | exact ⟨_, _, rfl, rfl, by omega, by omega, by omega, below_drewN' (((Below.refl W1.heap.size W1).alloc (Nat.le_refl _) _).alloc (by simp) _) 1, by have := heap_alloc2_new W1 (.cells #[.int .u64 (wLo n)] 39) (.cells #[.int .u64 (IntKind.u64.wrap (wHi n))] 39); rw [hsz] at this; exact this, by have := heap_alloc2_old W1 (.cells #[.int .u64 (wLo n)] 39) (.cells #[.int .u64 (IntKind.u64.wrap (wHi n))] 39); rw [hsz] at this; exact this⟩
  case rest =>
    obtain ⟨gh, gl, rfl, rfl, hne, hgh, hgl, hBc, hh, hl⟩ := hcut
    obtain ⟨d0, d1, _, _⟩ := blk2 (blk_below' HK.out hBc)
    have hBw := below_then' hB1 (by omega) hBc
    clear c0 c1
    obtain ⟨m, hm⟩ : ∃ m, n.natAbs = m := ⟨_, rfl⟩
    have hm1 : m < 18446744073709551616 := by omega
    have HM := Lib.hid hm1
    have HNM := Lib.hid hm
    have HT := Lib.hid (show wText n = (if n < 0 then [45] else []) ++ dig m by rw [wText, hm]; split <;> rfl)
    clear hm hm1
    go_upto_if 15 with (fail)
    go_cut [3] (fun v3 wc2 => v3 = .pointer (some ⟨gh, 0, none⟩) ∧ Below W1.heap.size W1 wc2 ∧ wc2.heap[gh]? = some (.cells #[.int .u64 0] 39 (0, 0)) ∧ wc2.heap[gl]? = some (.cells #[.int .u64 m] 39 (0, 0)))
    case first =>
      by_cases hn : n < 0
      · have hm := HNM.out
        have e1 : wHi n = -1 := by unfold wHi; omega
        have e2 : wLo n = 18446744073709551616 - m := by unfold wLo; omega
        have e3 : IntKind.u64.wrap (-1) = 18446744073709551615 := by rw [u64w]; omega
        rw [e1, e3] at hh
        rw [e2] at hl
        have s1 := sub64_run 0 (18446744073709551616 - m) 0 (by omega) (by omega) (by omega) (by omega) (by omega)
        have s2 := sub64_run 0 18446744073709551615 1 (by omega) (by omega) (by omega) (by omega) (by omega)
        have q1 : d64 0 (18446744073709551616 - m) 0 = m := by unfold d64; omega
        have q2 : b64 0 (18446744073709551616 - m) 0 = 1 := by unfold b64; rw [if_pos (by omega)]
        have q3 : d64 0 18446744073709551615 1 = 0 := by unfold d64; omega
        rw [q1, q2] at s1
        rw [q3] at s2
        have a0 : wc.cell? ⟨gh, 0, none⟩ = some (.int .u64 18446744073709551615) := (blk_cell' hh 0).trans rfl
        have a1 : wc.cell? ⟨gl, 0, none⟩ = some (.int .u64 (18446744073709551616 - m)) := (blk_cell' hl 0).trans rfl
        have f0 := blk_frozen' hh 0
        have f1 := blk_frozen' hl 0
        have HH := Lib.hid hh
        have HL := Lib.hid hl
        have HN := Lib.hid (And.intro e1 hn)
        have e5 : wHi n < 0 := by omega
        clear hm e1 e2 e3 q1 q2 q3 hh hl h0 h1 d1
        go_wp2_with fail
        go_meet
        case rel => exact ⟨rfl, (hBc.setCell (by simp; omega) _).setCell (by simp; omega) _, by simpa using blk_set' ((Below.heap_setCell wc ⟨gl, 0, none⟩ (.int .u64 m) gh hne).trans HH.out) 0 (.int .u64 0), by simpa using (Below.heap_setCell (wc.setCell ⟨gl, 0, none⟩ (.int .u64 m)) ⟨gh, 0, none⟩ (.int .u64 0) gl (Ne.symm hne)).trans (blk_set' HL.out 0 (.int .u64 m))⟩
      · have e1 : wHi n = 0 := by unfold wHi; omega
        have e2 : wLo n = m := by have := HNM.out; unfold wLo; omega
        have e3 : IntKind.u64.wrap 0 = 0 := by rw [u64w]; omega
        rw [e1, e3] at hh
        rw [e2] at hl
        have HN := Lib.hid e1
        have e4 : 0 ≤ wHi n := by omega
        clear e1 e2 e3
        go_wp2_with fail
        go_meet
        case rel => exact ⟨rfl, hBc, hh, hl⟩
    case rest =>
    obtain ⟨rfl, hb0, hh0, hl0⟩ := hcut
    have HNX := Lib.hid (next_any gh gl m wc (by omega) (by have := HM.out; omega) hh0 hl0)
    clear hh hl hh0 hl0 hBc d0 d1 hBw
    go_wp2_with (go_at_call 67; refine HNX.out.mono ?_; rintro e w1 ⟨rfl, hh1, hl1, hb1⟩)
    obtain ⟨d, hde, hdn, hds⟩ := enc_digit' m
    rw [hde]
    go_loopg [7] (m / 10) (fun g s7 wr => ∃ (r : Nat) (S : ByteArray), s7 = .string S ∧ r ≤ g ∧ r ≤ m ∧ Hid (dig m = digP r ++ nm S) ∧ Hid (S.size ≤ 20) ∧ Hid (r * 10 ^ S.size ≤ m) ∧ wr.heap[gh]? = some (.cells #[.int .u64 0] 39 (0, 0)) ∧ wr.heap[gl]? = some (.cells #[.int .u64 r] 39 (0, 0)) ∧ Below W1.heap.size W1 wr)
    case atStart => exact ⟨m / 10, d, rfl, Nat.le_refl _, by omega, Lib.hid (by rw [hdn.out]; exact dig_step m), Lib.hid (by omega), Lib.hid (by rw [hds]; have := @pow_next 0 m m (by simp); simpa using this), hh1, hl1, hb0.trans (hb1 _ (by omega) (by omega))⟩
    case round =>
      obtain ⟨r, S, rfl, hrg, hrm, hd, hS20, hpw, hh2, hl2, hbr⟩ := hrel
      have a0 : wr.cell? ⟨gh, 0, none⟩ = some (.int .u64 0) := (blk_cell' hh2 0).trans rfl
      have a1 : wr.cell? ⟨gl, 0, none⟩ = some (.int .u64 r) := (blk_cell' hl2 0).trans rfl
      obtain ⟨b0, _, _, _⟩ := blk2 (blk_below' HK.out hbr)
      have HNX2 := Lib.hid (next_any gh gl r wr hne (by have := HM.out; omega) hh2 hl2)
      clear hh2 hl2 hh1 hl1 h0 h1 hde hds hdn
      by_cases hr : r = 0
      · have hr0 : ((r : Int) != 0) = false := by simp [hr]
        have HR := Lib.hid hr
        have hsl : (S.size : Int) ≤ 8388608 := by have := hS20.out; omega
        clear hr
        by_cases hn : n < 0
        · have e1 : wHi n < 0 := by unfold wHi; omega
          have HN := Lib.hid hn
          clear hn
          go_wp2_with fail
          go_ret
          refine ⟨ret_str (nm_inj ?_), below_then' hB1 (by omega) hbr⟩
          rw [HT.out, hd.out, HR.out, if_pos HN.out, nm_app]
          rfl
        · have e1 : 0 ≤ wHi n := by unfold wHi; omega
          have HN := Lib.hid hn
          clear hn
          go_wp2_with fail
          go_ret
          refine ⟨ret_str (nm_inj ?_), below_then' hB1 (by omega) hbr⟩
          rw [HT.out, hd.out, HR.out, if_neg (by have := HN.out; omega)]
          rfl
      · have hr0 : ((r : Int) != 0) = true := by simp [hr]
        obtain ⟨g', rfl⟩ : ∃ g', gk = g' + 1 := ⟨gk - 1, by omega⟩
        have hst := dig_step r
        have HST := Lib.hid (show digP r = digP (r / 10) ++ [UInt8.ofNat (48 + r % 10)] by rw [← hst, digP, if_neg hr])
        have HPR := Lib.hid (pow_room hpw.out hr HM.out)
        obtain ⟨d, hde, hdn, hds⟩ := enc_digit' r
        have hdl : (d.size : Int) ≤ 8388608 := by omega
        have hsl : (S.size : Int) ≤ 8388608 := by have := hS20.out; omega
        have HDS := Lib.hid hds
        clear hr hst hds
        go_wp2_with (go_at_call 67; refine HNX2.out.mono ?_; rintro e w2 ⟨rfl, hh3, hl3, hb3⟩)
        go_roundg (r / 10)
        case measure => omega
        case rel =>
          have hds := HDS.out
          have hpr := HPR.out
          have e5 : (d ++ S).size = S.size + 1 := by rw [ByteArray.size_append]; omega
          exact ⟨r / 10, d ++ S, rfl, Nat.le_refl _, by omega, Lib.hid (by rw [hd.out, HST.out, nm_app, hdn.out]; simp), Lib.hid (by omega), Lib.hid (by rw [e5]; exact pow_next hpw.out), hh3, hl3, hbr.trans (hb3 _ (by omega) (by omega))⟩
end Go.Proofs.YtgjlgpaoilaikaaGreatDoor
