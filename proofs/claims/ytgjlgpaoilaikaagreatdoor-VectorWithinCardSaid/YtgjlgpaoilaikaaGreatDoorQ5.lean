/-
  Layer 4: the reference's find, Parse of resources.
-/
import Derived.Test.YtgjlgpaoilaikaaGreatDoorQ4
namespace Go.Proofs.YtgjlgpaoilaikaaGreatDoor
open Go.RowKit Go.Maps Go.Sort

theorem nm_cut (s : ByteArray) (a b : Nat) : nm (s.extract a b) = ((nm s).take b).drop a := by
  unfold nm
  rw [Lib.extract_data]
  first | rfl | (rw [List.drop_take]) | simp [List.drop_take]
theorem find_any (s : ByteArray) (c : UInt8) (cv : Int) (a b : Nat) (w : World) (hc : (c.toNat : Int) = cv) (hab : a ≤ b) (hb : b ≤ s.size) (hs : s.size ≤ 9223372036854775807) :
    Calls Tryz.prog 35 #[.string s, .int .u8 cv, .int .i64 a, .int .i64 b] w fun e w' => e = .returned (.int .i64 (a + (piece c (((nm s).take b).drop a)).length : Nat)) ∧ w = w' := by
  have hc0 : 0 ≤ cv := by omega
  have HCV := Lib.hid hc
  clear hc
  go_enter Tryz.func35, Tryz.ntmps35
  go_wp2_with fail
  go_loop [9] (fun i => ∃ k : Nat, a ≤ k ∧ k ≤ b ∧ i = .int .i64 k ∧ Hid (∀ j d, j < k - a → (((nm s).take b).drop a)[j]? = some d → d ≠ c)) (fun i => b - (intOf i).toNat)
  case atStart => exact ⟨a, by omega, hab, rfl, Lib.hid fun j d hj => by omega⟩
  case round =>
    obtain ⟨k, hk1, hk2, rfl, hn⟩ := hrel
    by_cases hlt : k < b
    · have hks : k < s.size := by omega
      have hget : (((nm s).take b).drop a)[k - a]? = some (s[k]'hks) := by
        rw [List.getElem?_drop, List.getElem?_take, if_pos (by omega), show a + (k - a) = k by omega]
        exact nm_get s k hks
      have HGET := Lib.hid hget
      clear hget
      by_cases he : s[k]'hks = c
      · have hb : (((s[k]'hks).toNat : Int) == cv) = true := by rw [he, ← HCV.out]; simp
        have HE := Lib.hid he
        clear he
        go_wp2_with fail
        go_ret
        refine ⟨ret_int ?_, rfl⟩
        rw [piece_at c (k := k - a) (by rw [List.length_drop, List.length_take, nm_length]; omega) hn.out (fun d hd => by rw [HGET.out] at hd; cases hd; exact HE.out)]
        congr 1
        omega
      · have hb : (((s[k]'hks).toNat : Int) == cv) = false := by
          rw [← HCV.out]
          simp only [beq_eq_false_iff_ne, ne_eq, Int.natCast_inj]
          exact fun e => he (UInt8.toNat_inj.1 e)
        have HE := Lib.hid he
        clear he
        go_wp2_with fail
        refine ⟨⟨k + 1, by omega, by omega, by go_num, Lib.hid fun j d hj hd => ?_⟩, by simp [intOf]; omega⟩
        rcases Nat.lt_or_ge j (k - a) with h | h
        · exact hn.out j d h hd
        · obtain rfl : j = k - a := by omega
          rw [HGET.out] at hd
          cases hd
          exact HE.out
    · obtain rfl : k = b := by omega
      go_wp2_with fail
      go_ret
      refine ⟨ret_int ?_, rfl⟩
      rw [piece_at c (k := k - a) (by rw [List.length_drop, List.length_take, nm_length]; omega) hn.out (fun d hd => by
        have := (List.getElem?_eq_some_iff.1 hd).1
        rw [List.length_drop, List.length_take, nm_length] at this
        omega)]
      congr 1
      omega
theorem find_is (s : ByteArray) (c : UInt8) (cv : Int) (a b r : Nat) (w : World) (hc : (c.toNat : Int) = cv) (hab : a ≤ b) (hb : b ≤ s.size) (hs : s.size ≤ 9223372036854775807) (hr : a + (piece c (((nm s).take b).drop a)).length = r) :
    Calls Tryz.prog 35 #[.string s, .int .u8 cv, .int .i64 a, .int .i64 b] w fun e w' => e = .returned (.int .i64 r) ∧ w = w' := by rw [← hr]; exact find_any s c cv a b w hc hab hb hs
theorem rqparse_is (s : ByteArray) (a e : Int) (w : World) (hs : s.size ≤ 9223372036854775807) (h : qParse (nm s) = (a, e)) :
    Calls Tryz.prog 37 #[.string s] w fun en w' => en = .returned (.tuple #[.int .i64 a, .int .i64 e]) ∧ w = w' := by
  have := rqparse_any s w hs
  rw [h] at this
  exact this
/-- one part of a text from a place on -/
theorem part_step (s : ByteArray) (F : Nat) (hF : F ≤ s.size) :
    ∃ E A : Nat, ∃ name rest : ByteArray, F + (piece 44 (((nm s).take s.size).drop F)).length = E ∧ F + (piece 61 (((nm s).take E).drop F)).length = A ∧ F ≤ A ∧ A ≤ E ∧ E ≤ s.size ∧ s.extract F A = name ∧ name.size ≤ s.size ∧
      (A < E → s.extract (A + 1) E = rest) ∧ rest.size ≤ s.size ∧
      (∀ out, partsGo out (splitC 44 ((nm s).drop F)) = if A = E then ([], 2) else if !lblB name || decide (16 ≤ out.length) || !lastLt out name then ([], 2) else if (qParse (nm rest)).2 ≠ 0 then ([], (qParse (nm rest)).2) else if E = s.size then (out ++ [⟨name, (qParse (nm rest)).1⟩], 0) else partsGo (out ++ [⟨name, (qParse (nm rest)).1⟩]) (splitC 44 ((nm s).drop (E + 1)))) := by
  have ht : (nm s).take s.size = nm s := List.take_of_length_le (by rw [nm_length]; omega)
  obtain ⟨p, hp⟩ : ∃ p, piece 44 ((nm s).drop F) = p := ⟨_, rfl⟩
  have hpl : p.length ≤ ((nm s).drop F).length := by rw [← hp]; exact piece_le _ _
  have hdl : ((nm s).drop F).length = s.size - F := by rw [List.length_drop, nm_length]
  have htp : ((nm s).take (F + p.length)).drop F = p := by
    rw [List.drop_take, show F + p.length - F = p.length by omega]
    have := piece_take 44 ((nm s).drop F)
    rw [hp] at this
    exact this
  have h61 := piece_le 61 p
  have hn : ba (piece 61 p) = s.extract F (F + (piece 61 p).length) := by
    apply nm_inj
    rw [nm_ba, nm_cut, List.drop_take, show F + (piece 61 p).length - F = (piece 61 p).length by omega]
    have e1 := piece_take 61 p
    have e2 := congrArg (List.take (piece 61 p).length) (piece_take 44 ((nm s).drop F))
    rw [hp, List.take_take, Nat.min_eq_left h61, e1] at e2
    exact e2.symm
  refine ⟨F + p.length, F + (piece 61 p).length, ba (piece 61 p), ba (p.drop ((piece 61 p).length + 1)), by rw [ht, hp], by rw [htp], by omega, by omega, by omega, hn.symm, by rw [ba_size]; omega, fun hlt => ?_, by rw [ba_size, List.length_drop]; omega, fun out => ?_⟩
  · apply nm_inj
    rw [nm_ba, nm_cut]
    rw [show F + (piece 61 p).length + 1 = F + ((piece 61 p).length + 1) by omega, ← List.drop_drop, htp]
  · rw [splitC_eq, hp, nm_ba]
    by_cases hA : (piece 61 p).length = p.length
    · have hA2 : F + (piece 61 p).length = F + p.length := by omega
      rw [if_pos hA2]
      have hh : ∀ ps, partsGo out (p :: ps) = ([], 2) := fun ps => by rw [partsGo, if_pos hA]
      by_cases hE : p.length = ((nm s).drop F).length
      · have e3 : (nm s).drop F = p := by
          have := piece_take 44 ((nm s).drop F)
          rw [hp] at this
          rw [← this, List.take_of_length_le (by omega)]
        rw [if_pos hE, e3, hh]
      · rw [if_neg hE, hh]
    · rw [if_neg (show ¬ F + (piece 61 p).length = F + p.length by omega)]
      have hh : ∀ ps, partsGo out (p :: ps) = if !lblB (ba (piece 61 p)) || decide (16 ≤ out.length) || !lastLt out (ba (piece 61 p)) then ([], 2) else if (qParse (p.drop ((piece 61 p).length + 1))).2 ≠ 0 then ([], (qParse (p.drop ((piece 61 p).length + 1))).2) else partsGo (out ++ [⟨ba (piece 61 p), (qParse (p.drop ((piece 61 p).length + 1))).1⟩]) ps := fun ps => by rw [partsGo, if_neg hA]
      by_cases hE : p.length = ((nm s).drop F).length
      · have e3 : (nm s).drop F = p := by
          have := piece_take 44 ((nm s).drop F)
          rw [hp] at this
          rw [← this, List.take_of_length_le (by omega)]
        rw [if_pos hE, e3, hh, if_pos (show F + p.length = s.size by omega)]
        rfl
      · rw [if_neg hE, hh, if_neg (show ¬ F + p.length = s.size by omega), List.drop_drop]
        rfl

set_option maxRecDepth 100000 in
set_option maxHeartbeats 2000000 in
theorem rvparse_any (s : ByteArray) (w : World) (hs : s.size ≤ 100000) :
    Calls Tryz.prog 10 #[.string s] w fun e w' => ∃ v, e = .returned (.tuple #[v, .int .i64 (vParse (nm s)).2]) ∧ w'.ownsRow w.heap.size 25 2 v (vParse (nm s)).1.length ((vParse (nm s)).1.flatMap encR) ∧ Below w.heap.size w w' := by
  have hne := nm_empty s
  by_cases h0 : nm s = []
  · rw [decide_eq_true h0] at hne
    have HV := Lib.hid (show vParse (nm s) = ([], 0) by simp [vParse, h0])
    clear h0
    go_enter Tryz.func10, Tryz.ntmps10
    go_wp2_with fail
    go_ret2
    exact ⟨_, by rw [HV.out]; rfl, by rw [HV.out]; exact own_nil' _ _ _ _, Below.refl _ _⟩
  · rw [decide_eq_false h0] at hne
    have HV := Lib.hid (show vParse (nm s) = partsGo [] (splitC 44 ((nm s).drop 0)) by simp [vParse, h0])
    clear h0
    go_enter Tryz.func10, Tryz.ntmps10
    go_wp2_with fail
    go_loopg [4, 5] s.size (fun g v f wr => ∃ (F : Nat) (out : List Res), F ≤ s.size ∧ s.size - F ≤ g ∧ f = .int .i64 F ∧ out.length ≤ 16 ∧ Hid (∀ r ∈ out, r.name.size ≤ s.size) ∧ Hid (vParse (nm s) = partsGo out (splitC 44 ((nm s).drop F))) ∧ wr.ownsRow w.heap.size 25 2 v out.length (out.flatMap encR) ∧ Below w.heap.size w wr)
    case atStart => exact ⟨0, [], by omega, by omega, rfl, by simp, Lib.hid (by simp), HV, own_nil' _ _ _ _, Below.refl _ _⟩
    case round =>
      obtain ⟨F, out, hF, hFg, rfl, hol, hnm, hs2, hown, hB⟩ := hrel
      have hbs := hB.size
      obtain ⟨E, A, name, rest, hE, hA, hFA, hAE, hEs, hname, hns, hrest, hrs, hstep⟩ := part_step s F hF
      have hst := hstep out
      obtain ⟨lb, hlb⟩ : ∃ lb, lblB name = lb := ⟨_, rfl⟩
      obtain ⟨ll, hll⟩ : ∃ ll, lastLt out name = ll := ⟨_, rfl⟩
      obtain ⟨qn, qe, hq⟩ : ∃ qn qe, qParse (nm rest) = (qn, qe) := ⟨_, _, rfl⟩
      rw [hlb, hll, hq, ← hs2.out] at hst
      have HE := Lib.hid hE
      have HA := Lib.hid hA
      have HST := Lib.hid hst
      have HLB := Lib.hid hlb
      have HLL := Lib.hid hll
      have HQ := Lib.hid hq
      have HR := Lib.hid hrest
      have HFG := Lib.hid hFg
      obtain ⟨A0, c0, rfl⟩ := own_shape hown
      clear hE hA hst hstep hlb hll hq hrest hs2 hFg
      have hE44 : ((44 : UInt8).toNat : Int) = 44 := rfl
      have hE61 : ((61 : UInt8).toNat : Int) = 61 := rfl
      have H44 := Lib.hid hE44
      have H61 := Lib.hid hE61
      clear hE44 hE61
      go_wp2_with fail
      refine (find_is s 44 44 F s.size E _ H44.out hF (Nat.le_refl _) (by omega) HE.out).mono ?_
      rintro e w' ⟨rfl, rfl⟩
      go_wp2_with fail
      refine (find_is s 61 61 F E A _ H61.out (by omega) hEs (by omega) HA.out).mono ?_
      rintro e w' ⟨rfl, rfl⟩
      go_upto_region 9 with ((go_at_call 28; refine (rright_is name lb _ (by omega) HLB.out).mono ?_; rintro e w' ⟨rfl, rfl⟩))
      obtain ⟨b1, hb1⟩ : ∃ b1 : Bool, (decide (A = E) || !lb || decide (out.length = 16)) = b1 := ⟨_, rfl⟩
      have HB1 := Lib.hid hb1
      clear hb1
      go_cut [4, 42] (fun v4 v wc => v4 = .slice A0 out.length c0 ∧ v = .bool b1 ∧ wr = wc)
      case first =>
        by_cases hAE2 : A = E
        · have hb : ((A : Int) == (E : Int)) = true := by simp [hAE2]
          have HX := Lib.hid (show b1 = true by rw [← HB1.out]; simp [hAE2])
          clear hAE2
          go_wp2_with fail
          go_meet
          case rel => exact ⟨rfl, by rw [HX.out], rfl⟩
        · have hb : ((A : Int) == (E : Int)) = false := by simp; omega
          cases lb
          · have HX := Lib.hid (show b1 = true by rw [← HB1.out]; simp)
            clear hAE2
            go_wp2_with fail
            go_meet
            case rel => exact ⟨rfl, by rw [HX.out], rfl⟩
          · by_cases h16 : out.length = 16
            · have hb2 : ((out.length : Int) == 16) = true := by simp [h16]
              have HX := Lib.hid (show b1 = true by rw [← HB1.out]; simp [h16])
              clear hAE2 h16
              go_wp2_with fail
              go_meet
              case rel => exact ⟨rfl, by rw [HX.out], rfl⟩
            · have hb2 : ((out.length : Int) == 16) = false := by simp; omega
              have HX := Lib.hid (show b1 = false by rw [← HB1.out]; simp [h16, hAE2])
              clear hAE2 h16
              go_wp2_with fail
              go_meet
              case rel => exact ⟨rfl, by rw [HX.out], rfl⟩
      case rest =>
        obtain ⟨rfl, rfl, rfl⟩ := hcut
        cases b1
        · have hb3 := HB1.out
          have hAE3 : A < E := by
            rcases Nat.lt_or_ge A E with h | h
            · exact h
            · have : A = E := by omega
              simp [this] at hb3
          have hlb : lb = true := by cases lb <;> simp at hb3 ⊢
          have hol2 : out.length < 16 := by
            rcases Nat.lt_or_ge out.length 16 with h | h
            · exact h
            · have : out.length = 16 := by omega
              simp [this] at hb3
          have hst2 := HST.out
          rw [if_neg (by omega), hlb, decide_eq_false (show ¬ 16 ≤ out.length by omega)] at hst2
          simp only [Bool.not_true, Bool.false_or, Bool.not_eq_true'] at hst2
          have HST2 := Lib.hid hst2
          have hsub := HR.out hAE3
          clear hb3 hst2 hlb HR
          have hra : RAt wr (.slice A0 out.length c0) out := own_RAt hown
          have HRA := Lib.hid hra
          have HOWN := Lib.hid hown
          clear hra hown
          go_upto_if 45 with (fail)
          go_cut [4] (fun v4 wc => v4 = .slice A0 out.length c0 ∧ ll = true ∧ Below wr.heap.size wr wc)
          case first =>
            rcases Nat.eq_zero_or_pos out.length with h0 | hp
            · have hz2 : decide (0 < out.length) = false := decide_eq_false (by omega)
              have hz : decide ((0 : Int) < (out.length : Int)) = false := decide_eq_false (by omega)
              have hl : ll = true := by
                rw [← HLL.out, List.eq_nil_of_length_eq_zero h0]; rfl
              have HL := Lib.hid hl
              have hz3 : out.length ≤ 0 := by omega
              clear h0 hl
              go_wp2_with fail
              go_meet
              case rel => exact ⟨rfl, HL.out, Below.refl _ _⟩
            · have hz2 : decide (0 < out.length) = true := decide_eq_true (by omega)
              have hz : decide ((0 : Int) < (out.length : Int)) = true := decide_eq_true (by omega)
              obtain ⟨r, hr⟩ : ∃ r, out[out.length - 1]? = some r := ⟨_, List.getElem?_eq_getElem (by omega)⟩
              have hlt2 : slt r.name name = ll := by rw [← HLL.out, lastLt_at hr]
              have hrn : r.name.size ≤ 9223372036854775807 := by have := hnm.out r (List.mem_of_getElem? hr); omega
              obtain ⟨A', c', e', hlm, hec⟩ := HRA.out.each
              cases e'
              obtain ⟨bb, off, rfl, d0, _⟩ := hec wr (Below.refl _ _) (out.length - 1) r hr
              have HLT := Lib.hid hlt2
              clear hec hr hlt2
              have hkk : (out.length - 1 : Nat) < out.length := by omega
              cases ll
              · have HVK := Lib.hid (show vParse (nm s) = ([], 2) by rw [HST2.out]; rfl)
                go_wp2_with (go_at_call 36; refine (before_is _ _ _ _ hrn (by omega) HLT.out).mono ?_; rintro e w' ⟨rfl, q, rfl⟩)
                go_ret2
                exact ⟨_, by rw [HVK.out]; rfl, by rw [HVK.out]; exact own_nil' _ _ _ _, below_drewN' hB q⟩
              · go_wp2_with (go_at_call 36; refine (before_is _ _ _ _ hrn (by omega) HLT.out).mono ?_; rintro e w' ⟨rfl, q, rfl⟩)
                go_meet
                case rel => exact ⟨rfl, trivial, below_drewN' (Below.refl _ _) q⟩
          case rest =>
            obtain ⟨rfl, hll, hBc⟩ := hcut
            have hst3 := HST2.out
            rw [hll] at hst3
            have HST3 := Lib.hid (show vParse (nm s) = if qe ≠ 0 then ([], qe) else if E = s.size then (out ++ [⟨name, qn⟩], 0) else partsGo (out ++ [⟨name, qn⟩]) (splitC 44 ((nm s).drop (E + 1))) by rw [hst3]; rfl)
            clear hst3 hll
            have hown2 := own_below' HOWN.out hBc
            have hbc2 := below_then' hB hbs hBc
            have hsc := hBc.size
            have hpn := qParse_range (nm rest)
            rw [HQ.out] at hpn
            have hp0 : 0 ≤ qn := hpn.1
            have hp1 : qn ≤ 9223372036854775807 := hpn.2
            clear hpn
            by_cases hqe : qe = 0
            · have hqb : (qe != 0) = false := by simp [hqe]
              have HQE := Lib.hid hqe
              clear hqe
              by_cases hEn : E = s.size
              · have hEb : ((E : Int) == (s.size : Int)) = true := by simp [hEn]
                have HVK := Lib.hid (show vParse (nm s) = (out ++ [⟨name, qn⟩], 0) by rw [HST3.out, if_neg (by rw [HQE.out]; simp), if_pos hEn])
                clear hEn
                go_wp2_with (first
                  | (go_at_call 37; refine (rqparse_is rest qn qe _ (by omega) HQ.out).mono ?_; rintro e w4 ⟨rfl, rfl⟩)
                  | ((with_reducible refine gate_app (.tmp 69) (.tmp 73) ?_); refine app_own (w0 := w) w.heap.size rfl (.tmp 69) (.tmp 73) 22 25 (.agg #[.string ⟨#[]⟩, .int .i64 0]) 2 24 rfl Tryz.underlying22 infoRes rfl (by decide) (by decide) _ out.length _ [.string name, .int .i64 qn] rfl rfl rfl (by simp [Value.oneCell']) hown2 hbc2 (by omega) (by omega) ?_; intro v5 w5 hown5 hB5 hg5 hloc5 hsz5))
                go_ret2
                exact ⟨_, by rw [HVK.out]; rfl, by rw [HVK.out]; simp only [List.length_append, List.length_singleton, List.flatMap_append, List.flatMap_singleton]; exact hown5, hB5⟩
              · have hEb : ((E : Int) == (s.size : Int)) = false := by simp; omega
                have HEN := Lib.hid (show E < s.size by omega)
                have HVK := Lib.hid (show vParse (nm s) = partsGo (out ++ [⟨name, qn⟩]) (splitC 44 ((nm s).drop (E + 1))) by rw [HST3.out, if_neg (by rw [HQE.out]; simp), if_neg hEn])
                clear hEn
                go_wp2_with (first
                  | (go_at_call 37; refine (rqparse_is rest qn qe _ (by omega) HQ.out).mono ?_; rintro e w4 ⟨rfl, rfl⟩)
                  | ((with_reducible refine gate_app (.tmp 69) (.tmp 73) ?_); refine app_own (w0 := w) w.heap.size rfl (.tmp 69) (.tmp 73) 22 25 (.agg #[.string ⟨#[]⟩, .int .i64 0]) 2 24 rfl Tryz.underlying22 infoRes rfl (by decide) (by decide) _ out.length _ [.string name, .int .i64 qn] rfl rfl rfl (by simp [Value.oneCell']) hown2 hbc2 (by omega) (by omega) ?_; intro v5 w5 hown5 hB5 hg5 hloc5 hsz5))
                go_roundg (s.size - (E + 1))
                case measure => have := HEN.out; have := HFG.out; omega
                case rel =>
                  refine ⟨E + 1, out ++ [⟨name, qn⟩], by have := HEN.out; omega, Nat.le_refl _, by go_num, by rw [List.length_append]; simp; omega, Lib.hid ?_, Lib.hid HVK.out, ?_, hB5⟩
                  · intro r hr
                    rcases List.mem_append.1 hr with h | h
                    · exact hnm.out r h
                    · rw [List.mem_singleton] at h
                      subst h
                      exact hns
                  · simp only [List.length_append, List.length_singleton, List.flatMap_append, List.flatMap_singleton]; exact hown5
            · have hqb : (qe != 0) = true := by simp [hqe]
              have HVK := Lib.hid (show vParse (nm s) = ([], qe) by rw [HST3.out, if_pos hqe])
              clear hqe
              go_wp2_with (go_at_call 37; refine (rqparse_is rest qn qe _ (by omega) HQ.out).mono ?_; rintro e w4 ⟨rfl, rfl⟩)
              go_ret2
              exact ⟨_, by rw [HVK.out]; rfl, by rw [HVK.out]; exact own_nil' _ _ _ _, hbc2⟩
        · have HVK := Lib.hid (show vParse (nm s) = ([], 2) by
            have hb3 := HB1.out
            rw [HST.out]
            by_cases h1 : A = E
            · rw [if_pos h1]
            · rw [if_neg h1, if_pos]
              cases lb
              · rfl
              · have : out.length = 16 := by simpa [h1] using hb3
                simp [this])
          go_wp2_with fail
          go_ret2
          exact ⟨_, by rw [HVK.out]; rfl, by rw [HVK.out]; exact own_nil' _ _ _ _, hB⟩
end Go.Proofs.YtgjlgpaoilaikaaGreatDoor
