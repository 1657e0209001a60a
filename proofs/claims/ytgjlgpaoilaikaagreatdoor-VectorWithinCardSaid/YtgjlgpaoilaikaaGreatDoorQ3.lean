/-
  Layer 3: the program's Parse of a quantity.
-/
import Derived.Test.YtgjlgpaoilaikaaGreatDoorQ2
import Derived.Test.YtgjlgpaoilaikaaGreatDoorShelf
import Derived.Lib.SmallJoins
namespace Go.Proofs.YtgjlgpaoilaikaaGreatDoor
open Go.RowKit

theorem factor_is (s : ByteArray) (f : Int) (w : World) (hs : s.size ≤ 9223372036854775807) (hg : Glob w) (hf : qFactor (nm s) = f) :
    Calls Tryz.prog 58 #[.string s] w fun e w' => e = .returned (.int .i64 f) ∧ Below w.heap.size w w' := by rw [← hf]; exact factor_any s w hs hg
theorem figures_is (s : ByteArray) (n : Nat) (w : World) (hs : s.size ≤ 9223372036854775807) (hn : figs (nm s) = n) :
    Calls Tryz.prog 57 #[.string s] w fun e w' => e = .returned (.int .i64 n) ∧ w = w' := by rw [← hn]; exact figures_any s w hs
theorem pu_ok (s : ByteArray) (u : Nat) (w : World) (hs : s.size ≤ 281474976710656) (h : Lib.parseUintB 64 (nm s) = .ok u) :
    Calls Tryz.prog 59 #[.string s, .int .i64 10, .int .i64 64] w fun e w' => e = .returned (.tuple #[.int .u64 u, .nilIface]) ∧ Below w.heap.size w w' :=
  (Tryz.strconv_ParseUint_10_at64_ok s (by omega) u h w).mono fun e w' ⟨he, hw⟩ => ⟨he, by
    rcases hw with rfl | rfl
    · exact Below.refl _ _
    · exact Joins.below_bytesWorld _ _ _ _ (Nat.le_refl _)⟩
theorem pu_range (s : ByteArray) (w : World) (hs : s.size ≤ 281474976710656) (hg : Glob w) (h : Lib.parseUintB 64 (nm s) = .range) :
    Calls Tryz.prog 59 #[.string s, .int .i64 10, .int .i64 64] w fun e w' => ∃ u N, e = .returned (.tuple #[.int .u64 18446744073709551615, .iface u (.pointer (some ⟨N, 0, none⟩))]) ∧ Below w.heap.size w w' := by
  obtain ⟨_, _, te, pe, h3⟩ := hg
  exact (Tryz.strconv_ParseUint_10_at64_range s hs h _ w h3 (.inr ⟨_, _, rfl⟩)).mono fun e w' ⟨N, he, _, _, hw⟩ => ⟨_, N, he, hw⟩
theorem mul64_is (x y : Nat) (w : World) (hx : x < 18446744073709551616) (hy : y < 18446744073709551616) :
    Calls Tryz.prog 60 #[.int .u64 x, .int .u64 y] w fun e w' => e = .returned (.tuple #[.int .u64 ((x * y / 18446744073709551616 : Nat) : Int), .int .u64 ((x * y % 18446744073709551616 : Nat) : Int)]) ∧ w = w' :=
  (Tryz.bits_Mul64 x y hx hy w).mono fun _ _ ⟨he, hw⟩ => ⟨he, hw.symm⟩

set_option maxRecDepth 100000 in
set_option maxHeartbeats 1000000 in
theorem qparse_any (s : ByteArray) (w : World) (hs : s.size ≤ 281474976710656) (hg : Glob w) :
    Calls Tryz.prog 34 #[.string s] w fun e w' => e = .returned (.tuple #[.int .i64 (qParse (nm s)).1, .int .i64 (qParse (nm s)).2]) ∧ Below w.heap.size w w' := by
  obtain ⟨n, hn⟩ : ∃ n, figs (nm s) = n := ⟨_, rfl⟩
  have hns : n ≤ s.size := by rw [← hn, ← nm_length]; exact figs_le _
  obtain ⟨f, hf⟩ : ∃ f, qFactor (nm (s.extract n s.size)) = f := ⟨_, rfl⟩
  have hfr := qFactor_range (nm (s.extract n s.size))
  rw [hf] at hfr
  have hf0 := hfr.1
  have hf1 := hfr.2
  have hx : (s.extract n s.size).size ≤ 9223372036854775807 := by rw [ByteArray.size_extract]; omega
  have hy : (s.extract 0 n).size ≤ 281474976710656 := by rw [ByteArray.size_extract]; omega
  have HN := Lib.hid hn
  have HF := Lib.hid hf
  have HFD := Lib.hid (show qFactor ((nm s).drop n) = f by rw [← nm_from]; exact hf)
  have HG := Lib.hid hg
  obtain ⟨b, hb⟩ : ∃ b : Bool, decide (n = 0 ∨ f = 0 ∨ ((nm s).head? = some 48 ∧ 1 < n)) = b := ⟨_, rfl⟩
  have HB := Lib.hid hb
  clear hf hfr hn hg hb
  go_enter Tryz.func34, Tryz.ntmps34
  go_upto_region 3 with (first
    | (go_at_call 57; refine (figures_is s n _ (by omega) HN.out).mono ?_; rintro e w' ⟨rfl, rfl⟩)
    | (go_at_call 58; refine (factor_is _ f _ hx HG.out HF.out).mono ?_; rintro e w1 ⟨rfl, hB1⟩))
  go_cut [30] (fun v wc => v = .bool b ∧ w1 = wc)
  case first =>
    by_cases hn0 : n = 0
    · have hb : b = true := by rw [← HB.out]; simp [hn0]
      have hnb : ((n : Int) == 0) = true := by simp [hn0]
      subst hb
      clear hn0
      go_wp2_with fail
      go_meet
      case rel => exact ⟨rfl, rfl⟩
    · have hnb : ((n : Int) == 0) = false := by simpa using hn0
      have h0s : 0 < s.size := by omega
      have hhd : (nm s).head? = some (s[0]'h0s) := by rw [List.head?_eq_getElem?]; exact nm_get s 0 h0s
      have hh48 : (nm s).head? = some 48 ↔ ((s[0]'h0s).toNat : Int) = 48 := by
        rw [hhd, Option.some.injEq, ← UInt8.toNat_inj]
        simp
        omega
      have hb := HB.out
      clear hhd
      by_cases hfz : f = 0
      · have hfb : (f == 0) = true := by simp [hfz]
        have hb1 : b = true := by rw [← hb]; simp [hfz]
        subst hb1
        clear hb hh48 hn0 hfz
        go_wp2_with fail
        go_meet
        case rel => exact ⟨rfl, rfl⟩
      · have hfb : (f == 0) = false := by simp [hfz]
        by_cases h2 : ((s[0]'h0s).toNat : Int) = 48
        · have h3 : (((s[0]'h0s).toNat : Int) == 48) = true := by simpa using h2
          by_cases h1 : 1 < n
          · have hb1 : b = true := by rw [← hb]; simp [hh48, h1, h2]
            have h5 : decide ((1 : Int) < (n : Int)) = true := decide_eq_true (by omega)
            subst hb1
            clear hb h2 hh48 hfz hn0 h1
            go_wp2_with fail
            go_meet
            case rel => exact ⟨rfl, rfl⟩
          · have hb1 : b = false := by rw [← hb]; simp [h1, hn0, hfz]
            have h5 : decide ((1 : Int) < (n : Int)) = false := decide_eq_false (by omega)
            subst hb1
            clear hb h2 hh48 hfz hn0 h1
            go_wp2_with fail
            go_meet
            case rel => exact ⟨rfl, rfl⟩
        · have h3 : (((s[0]'h0s).toNat : Int) == 48) = false := by simpa using h2
          have hb1 : b = false := by rw [← hb]; simp [hh48, h2, hn0, hfz]
          subst hb1
          clear hb h2 hh48 hfz hn0
          go_wp2_with fail
          go_meet
          case rel => exact ⟨rfl, rfl⟩
  case rest =>
    obtain ⟨rfl, rfl⟩ := hcut
    cases b
    · have hnb : ¬ (n = 0 ∨ f = 0 ∨ ((nm s).head? = some 48 ∧ 1 < n)) := by have := HB.out; simpa using this
      obtain ⟨F, rfl⟩ := Int.eq_ofNat_of_zero_le hf0
      obtain ⟨V, hV⟩ : ∃ V, decV 0 ((nm s).take n) = V := ⟨_, rfl⟩
      have HQ := Lib.hid (show qParse (nm s) = if 9223372036854775807 < (V : Int) * (F : Int) then (0, 3) else ((V : Int) * (F : Int), 0) by
        rw [qParse, HN.out, HFD.out, if_neg hnb, hV])
      have hpu : Lib.parseUintB 64 (nm (s.extract 0 n)) = if V ≤ 18446744073709551615 then .ok V else .range := by
        have := parse64 (nm s) (by rw [HN.out]; omega)
        rw [HN.out, hV] at this
        rw [nm_to]
        exact this
      have hF1 : 1 ≤ F := by omega
      clear hnb hV hf0
      by_cases hV64 : V ≤ 18446744073709551615
      · rw [if_pos hV64] at hpu
        have HPU := Lib.hid hpu
        clear hpu
        go_upto_region 7 with (first
          | (go_at_call 59; refine (pu_ok _ V _ hy HPU.out).mono ?_; rintro e w2 ⟨rfl, hB2⟩)
          | (go_at_call 60; refine (mul64_is V F _ (by omega) (by omega)).mono ?_; rintro e w3 ⟨rfl, rfl⟩))
        obtain ⟨H, hH⟩ : ∃ H : Int, (V : Int) * (F : Int) / 18446744073709551616 = H := ⟨_, rfl⟩
        obtain ⟨L, hL⟩ : ∃ L : Int, (V : Int) * (F : Int) % 18446744073709551616 = L := ⟨_, rfl⟩
        rw [hH, hL]
        obtain ⟨P, hP⟩ : ∃ P : Int, (V : Int) * (F : Int) = P := ⟨_, rfl⟩
        have hP0 : 0 ≤ P := by rw [← hP]; exact Int.mul_nonneg (by omega) (by omega)
        rw [hP] at hH hL
        have hq := HQ.out
        rw [hP] at hq
        have HQ2 := Lib.hid hq
        have HHL := Lib.hid (show P = H * 18446744073709551616 + L by omega)
        have hL0 : 0 ≤ L := by omega
        have hL1 : L ≤ 18446744073709551615 := by omega
        have hH0 : 0 ≤ H := by omega
        have hBB := below_then' hB1 hB1.size hB2
        clear hH hL hP hq hP0 HPU HQ
        by_cases h1 : H = 0
        · have h2 : (H != 0) = false := by simp [h1]
          have HH := Lib.hid h1
          clear h1
          by_cases h3 : 9223372036854775807 < L
          · have h4 : decide ((9223372036854775807 : Int) < L) = true := decide_eq_true h3
            go_wp2_with fail
            go_ret2
            exact ⟨by rw [HQ2.out, if_pos (by have := HHL.out; have := HH.out; omega)]; rfl, hBB⟩
          · have h4 : decide ((9223372036854775807 : Int) < L) = false := decide_eq_false h3
            go_wp2_with fail
            go_ret2
            refine ⟨?_, hBB⟩
            have e1 : P = L := by have := HHL.out; have := HH.out; omega
            rw [HQ2.out, if_neg (by omega), e1]
            rfl
        · have h2 : (H != 0) = true := by simp [h1]
          have HH := Lib.hid (show 1 ≤ H by omega)
          clear h1
          go_wp2_with fail
          go_ret2
          exact ⟨by rw [HQ2.out, if_pos (by have := HHL.out; have := HH.out; omega)]; rfl, hBB⟩
      · rw [if_neg hV64] at hpu
        have HPU := Lib.hid hpu
        have HV := Lib.hid (show 9223372036854775807 < (V : Int) * (F : Int) by
          have : (V : Int) * 1 ≤ (V : Int) * (F : Int) := Int.mul_le_mul_of_nonneg_left (by omega) (by omega)
          omega)
        clear hpu
        go_wp2_with (first
          | (go_at_call 59; refine (pu_range _ _ hy (HG.out.below hB1) HPU.out).mono ?_; rintro e w2 ⟨u, N, rfl, hB2⟩)
          | (go_at_call 60; refine (mul64_is 18446744073709551615 F _ (by omega) (by omega)).mono ?_; rintro e w3 ⟨rfl, rfl⟩))
        go_ret2
        exact ⟨by rw [HQ.out, if_pos HV.out]; rfl, below_then' hB1 hB1.size hB2⟩
    · have HQ := Lib.hid (show qParse (nm s) = (0, 2) by
        have := HB.out
        rw [qParse, HN.out, HFD.out, if_pos (by simpa using this)])
      go_wp2_with fail
      go_ret2
      exact ⟨by rw [HQ.out]; rfl, hB1⟩
end Go.Proofs.YtgjlgpaoilaikaaGreatDoor
