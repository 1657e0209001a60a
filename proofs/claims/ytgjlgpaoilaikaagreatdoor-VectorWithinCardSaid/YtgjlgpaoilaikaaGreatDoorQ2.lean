/-
  Layer 3: the reference's Parse of a quantity.
-/
import Derived.Test.YtgjlgpaoilaikaaGreatDoorQ1
import Derived.Deep.CutBlock
namespace Go.Proofs.YtgjlgpaoilaikaaGreatDoor
open Go.RowKit

theorem nm_from (s : ByteArray) (a : Nat) : nm (s.extract a s.size) = (nm s).drop a := Lib.extract_to_end s a
theorem nm_to (s : ByteArray) (a : Nat) : nm (s.extract 0 a) = (nm s).take a := Lib.extract_from_zero s a
theorem rfactor_is (s : ByteArray) (f : Int) (w : World) (hs : s.size ≤ 9223372036854775807) (hf : qFactor (nm s) = f) :
    Calls Tryz.prog 61 #[.string s] w fun e w' => e = .returned (.int .i64 f) ∧ w = w' := by rw [← hf]; exact rfactor_any s w hs

theorem figs_no : ∀ (l : List UInt8) (c : UInt8), l[figs l]? = some c → isDig c = false
  | [], c, h => by simp at h
  | b :: l, c, h => by
    unfold figs at h
    rw [List.takeWhile_cons] at h
    by_cases hb : isDig b = true
    · rw [if_pos hb] at h
      exact figs_no l c (by simpa [figs] using h)
    · rw [if_neg hb] at h
      simp at h
      subst h
      simpa using hb
theorem decV_take {l : List UInt8} {k : Nat} {c : UInt8} (h : l[k]? = some c) : decV 0 (l.take (k + 1)) = decV 0 (l.take k) * 10 + (c.toNat - 48) := by
  rw [List.take_add_one, h]
  exact decV_snoc _ _ _
theorem decV_mono (l : List UInt8) (k n : Nat) (h : k ≤ n) : decV 0 (l.take k) ≤ decV 0 (l.take n) := by
  have e : l.take n = l.take k ++ (l.take n).drop k := by
    conv => lhs; rw [← List.take_append_drop k (l.take n)]
    rw [List.take_take, Nat.min_eq_left h]
  rw [e]
  unfold decV
  rw [List.foldl_append]
  exact decV_ge _ _
theorem quo_lt (u f : Int) (hf : 1 ≤ f) : 9223372036854775807 / f < u ↔ 9223372036854775807 < u * f := Int.ediv_lt_iff_lt_mul (by omega)

set_option maxRecDepth 100000 in
set_option maxHeartbeats 1000000 in
theorem rqparse_any (s : ByteArray) (w : World) (hs : s.size ≤ 9223372036854775807) :
    Calls Tryz.prog 37 #[.string s] w fun e w' => e = .returned (.tuple #[.int .i64 (qParse (nm s)).1, .int .i64 (qParse (nm s)).2]) ∧ w = w' := by
  go_enter Tryz.func37, Tryz.ntmps37
  go_upto_block 0 with (fail)
  obtain ⟨n, hn⟩ : ∃ n, figs (nm s) = n := ⟨_, rfl⟩
  have hns : n ≤ s.size := by rw [← hn, ← nm_length]; exact figs_le _
  have HN := Lib.hid hn
  clear hn
  go_cut [4] (fun v4 wc => v4 = .int .i64 n ∧ w = wc)
  case first =>
    go_wp2_with fail
    go_loop [4] (fun i => ∃ k : Nat, k ≤ n ∧ i = .int .i64 k) (fun i => s.size - (intOf i).toNat)
    case atStart => exact ⟨0, by omega, rfl⟩
    case round =>
      obtain ⟨k, hk, rfl⟩ := hrel
      have hfg := HN.out
      by_cases hlt : k < n
      · have hks : k < s.size := by omega
        obtain ⟨c, hc, hd⟩ := figs_dig (nm s) k (by omega)
        rw [nm_get s k hks] at hc
        cases hc
        rw [isDig_iff] at hd
        have hd1 := hd.1
        have hd2 := hd.2
        clear hd hfg
        go_wp2_with fail
        exact ⟨⟨k + 1, by omega, by go_num⟩, by simp [intOf]; omega⟩
      · obtain rfl : k = n := by omega
        by_cases hks : k < s.size
        · have hd := figs_no (nm s) (s[k]'hks) (by rw [hfg]; exact nm_get s k hks)
          rw [isDig_no] at hd
          clear hfg
          rcases hd with hd | hd
          all_goals
            go_wp2_with fail
            go_meet
            case rel => exact ⟨rfl, rfl⟩
        · clear hfg
          go_wp2_with fail
          go_meet
          case rel => exact ⟨rfl, rfl⟩
  case rest =>
    obtain ⟨rfl, rfl⟩ := hcut
    obtain ⟨f, hf⟩ : ∃ f, qFactor (nm (s.extract n s.size)) = f := ⟨_, rfl⟩
    have hfr := qFactor_range (nm (s.extract n s.size))
    rw [hf] at hfr
    have hf0 := hfr.1
    have hf1 := hfr.2
    have hx : (s.extract n s.size).size ≤ 9223372036854775807 := by rw [ByteArray.size_extract]; omega
    have HF := Lib.hid hf
    have HFD := Lib.hid (show qFactor ((nm s).drop n) = f by rw [← nm_from]; exact hf)
    clear hf hfr
    obtain ⟨b, hb⟩ : ∃ b : Bool, decide (n = 0 ∨ f = 0 ∨ ((nm s).head? = some 48 ∧ 1 < n)) = b := ⟨_, rfl⟩
    have HB := Lib.hid hb
    clear hb
    go_upto_region 5 with ((go_at_call 61; refine (rfactor_is _ f _ hx HF.out).mono ?_; rintro e w' ⟨rfl, rfl⟩))
    go_cut [45] (fun v wc => v = .bool b ∧ w = wc)
    case first =>
      by_cases hn0 : n = 0
      · have hb : b = true := by rw [← HB.out]; simp [hn0]
        have hnb : ((n : Int) == 0) = true := by simp [hn0]
        subst hb
        clear hn0
        go_wp2_with fail
        go_meet
        case rel => exact ⟨rfl, rfl⟩
      · have hnb : ((n : Int) == 0) = false := by simpa using hn0
        have h0s : 0 < s.size := by omega
        have hhd : (nm s).head? = some (s[0]'h0s) := by rw [List.head?_eq_getElem?]; exact nm_get s 0 h0s
        have hh48 : (nm s).head? = some 48 ↔ ((s[0]'h0s).toNat : Int) = 48 := by
          rw [hhd, Option.some.injEq, ← UInt8.toNat_inj]
          simp
          omega
        have hfz : (f == 0) = decide (f = 0) := by rw [Bool.eq_iff_iff]; simp
        have hb := HB.out
        clear hhd
        by_cases h1 : 1 < n
        · by_cases h2 : ((s[0]'h0s).toNat : Int) = 48
          · have hb1 : b = true := by rw [← hb]; simp [hh48, h1, h2]
            have h3 : (((s[0]'h0s).toNat : Int) == 48) = true := by simpa using h2
            subst hb1
            clear hb h2 hh48 hfz hn0
            go_wp2_with fail
            go_meet
            case rel => exact ⟨rfl, rfl⟩
          · have hb1 : b = decide (f = 0) := by rw [← hb]; simp [hh48, h2, hn0]
            have h3 : (((s[0]'h0s).toNat : Int) == 48) = false := by simpa using h2
            clear hb h2 hh48 hn0
            cases b <;> rw [← hb1] at hfz
            all_goals
              clear hb1
              go_wp2_with fail
              go_meet
              case rel => exact ⟨rfl, rfl⟩
        · have hb1 : b = decide (f = 0) := by rw [← hb]; simp [h1, hn0]
          have h3 : (n : Int) ≤ 1 := by omega
          clear hb h1 hh48 hn0
          cases b <;> rw [← hb1] at hfz
          all_goals
            clear hb1
            go_wp2_with fail
            go_meet
            case rel => exact ⟨rfl, rfl⟩
    case rest =>
      obtain ⟨rfl, rfl⟩ := hcut
      cases b
      · have hnb : ¬ (n = 0 ∨ f = 0 ∨ ((nm s).head? = some 48 ∧ 1 < n)) := by have := HB.out; simpa using this
        have hf2 : 1 ≤ f := by omega
        obtain ⟨M, hM⟩ : ∃ M : Int, (9223372036854775807 : Int) / f = M := ⟨_, rfl⟩
        have hM0 : 0 ≤ M := by rw [← hM]; exact Int.ediv_nonneg (by omega) (by omega)
        have hM1 : M ≤ 9223372036854775807 := by rw [← hM]; exact Int.ediv_le_self _ (by omega)
        have HQ := Lib.hid (show qParse (nm s) = if M < (decV 0 ((nm s).take n) : Int) then (0, 3) else ((decV 0 ((nm s).take n) : Int) * f, 0) by
          rw [qParse, HN.out, HFD.out, if_neg hnb]
          by_cases h : M < (decV 0 ((nm s).take n) : Int)
          · rw [if_pos h, if_pos ((quo_lt _ f hf2).1 (by rw [hM]; exact h))]
          · rw [if_neg h, if_neg (fun k => h (by rw [← hM]; exact (quo_lt _ f hf2).2 k))])
        have HMM := Lib.hid hM
        clear hnb
        go_wp2_with fail
        rw [hM]
        clear hM
        go_loop [7, 8] (fun u i => ∃ (k U : Nat), k ≤ n ∧ i = .int .i64 k ∧ u = .int .u64 U ∧ (U : Int) ≤ M ∧ Hid (decV 0 ((nm s).take k) = U)) (fun _ i => n - (intOf i).toNat)
        case atStart => exact ⟨0, 0, by omega, rfl, rfl, by omega, Lib.hid rfl⟩
        case round =>
          obtain ⟨k, U, hk, rfl, rfl, hU, hV⟩ := hrel
          by_cases hlt : k < n
          · have hks : k < s.size := by omega
            obtain ⟨c, hc, hd⟩ := figs_dig (nm s) k (by rw [HN.out]; exact hlt)
            rw [nm_get s k hks] at hc
            cases hc
            rw [isDig_iff] at hd
            have hd1 := hd.1
            have hd2 := hd.2
            have hst := decV_take (nm_get s k hks)
            rw [hV.out] at hst
            have hmn := decV_mono (nm s) (k + 1) n hlt
            rw [hst] at hmn
            have HST := Lib.hid hst
            have HMN := Lib.hid hmn
            clear hd hst hmn
            by_cases h1 : M / 10 < (U : Int)
            · go_wp2_with fail
              go_ret2
              refine ⟨?_, rfl⟩
              rw [HQ.out, if_pos (by have := HMN.out; omega)]
              rfl
            · by_cases h2 : M < (U : Int) * 10 + ((s[k]'hks).toNat - 48)
              · go_wp2_with fail
                go_ret2
                refine ⟨?_, rfl⟩
                rw [HQ.out, if_pos (by have := HMN.out; omega)]
                rfl
              · go_wp2_with fail
                exact ⟨⟨k + 1, U * 10 + ((s[k]'hks).toNat - 48), by omega, by go_num, by congr 1; omega, by omega, Lib.hid HST.out⟩, by simp [intOf]; omega⟩
          · obtain rfl : k = n := by omega
            have hlo : 0 ≤ (U : Int) * f := Int.mul_nonneg (by omega) (by omega)
            have hhi : (U : Int) * f ≤ 9223372036854775807 := by
              rcases (show 9223372036854775807 < (U : Int) * f ∨ (U : Int) * f ≤ 9223372036854775807 by omega) with h | h
              · have := (quo_lt _ f hf2).2 h
                rw [HMM.out] at this
                omega
              · exact h
            go_wp2_with fail
            go_ret2
            refine ⟨?_, rfl⟩
            rw [HQ.out, hV.out, if_neg (by omega)]
            rfl
      · have HQ := Lib.hid (show qParse (nm s) = (0, 2) by
          have := HB.out
          rw [qParse, HN.out, HFD.out, if_pos (by simpa using this)])
        go_wp2_with fail
        go_ret2
        exact ⟨by rw [HQ.out]; rfl, rfl⟩
end Go.Proofs.YtgjlgpaoilaikaaGreatDoor
