/-
  Layer 4: the program's Parse of resources.
-/
import Derived.Test.YtgjlgpaoilaikaaGreatDoorQ3
import Derived.Test.YtgjlgpaoilaikaaGreatDoorV5
import Derived.Test.YtgjlgpaoilaikaaGreatDoorQT
import Derived.Lib.SplitLaws
namespace Go.Proofs.YtgjlgpaoilaikaaGreatDoor
open Go.RowKit Go.Maps Go.Sort

theorem cut_no (p : ByteArray) (w : World) (hp : p.size < 4294967281) (hg : Glob w) (h : (piece 61 (nm p)).length = (nm p).length) :
    Calls Tryz.prog 33 #[.string p, .string ⟨#[61]⟩] w fun e w' => e = .returned (.tuple #[.string p, .string ⟨#[]⟩, .bool false]) ∧ ∃ n, w' = w.drewN n := by
  obtain ⟨_, ⟨m, hm⟩, _⟩ := hg
  refine (Tryz.strings_Cut p ⟨#[61]⟩ m w hp hm).mono fun e w' ⟨he, hw⟩ => ⟨?_, hw⟩
  have : Lib.cut (nm p) [61] = (nm p, [], false) := by rw [cut_one, if_pos h]
  rw [he]
  show Ending.returned (.tuple #[.string ⟨(Lib.cut (nm p) [61]).1.toArray⟩, .string ⟨(Lib.cut (nm p) [61]).2.1.toArray⟩, .bool (Lib.cut (nm p) [61]).2.2]) = _
  rw [this]
  rfl
theorem cut_yes (p : ByteArray) (w : World) (hp : p.size < 4294967281) (hg : Glob w) (h : (piece 61 (nm p)).length ≠ (nm p).length) :
    Calls Tryz.prog 33 #[.string p, .string ⟨#[61]⟩] w fun e w' => e = .returned (.tuple #[.string (ba (piece 61 (nm p))), .string (ba ((nm p).drop ((piece 61 (nm p)).length + 1))), .bool true]) ∧ ∃ n, w' = w.drewN n := by
  obtain ⟨_, ⟨m, hm⟩, _⟩ := hg
  refine (Tryz.strings_Cut p ⟨#[61]⟩ m w hp hm).mono fun e w' ⟨he, hw⟩ => ⟨?_, hw⟩
  have : Lib.cut (nm p) [61] = (piece 61 (nm p), (nm p).drop ((piece 61 (nm p)).length + 1), true) := by rw [cut_one, if_neg h]
  rw [he]
  show Ending.returned (.tuple #[.string ⟨(Lib.cut (nm p) [61]).1.toArray⟩, .string ⟨(Lib.cut (nm p) [61]).2.1.toArray⟩, .bool (Lib.cut (nm p) [61]).2.2]) = _
  rw [this]
  rfl
/-- the parts of a text at its commas -/
theorem parts_any (s : ByteArray) (w : World) (hs : s.size < 4294967281) (hg : Glob w) :
    Calls Tryz.prog 32 #[.string s, .string ⟨#[44]⟩] w fun e w' => ∃ ps : List ByteArray, Hid (ps.map nm = splitC 44 (nm s)) ∧ e = .returned (.slice (some ⟨w.heap.size, 0, none⟩) ps.length ps.length) ∧ (∀ j p, ps[j]? = some p → w'.cell? ⟨w.heap.size, j, none⟩ = some (.string p)) ∧ w'.heap.size = w.heap.size + 1 ∧ Below w.heap.size w w' := by
  obtain ⟨_, ⟨m, hm⟩, _⟩ := hg
  refine (Tryz.strings_Split s ⟨#[44]⟩ m w hs hm (by decide)).mono fun e w' ⟨he, hw⟩ => ?_
  have h1 := splitB_one 44 s
  have hl : (Lib.splitB ⟨#[44]⟩ 0 (Lib.countB s ⟨#[44]⟩) s).length = Lib.countB s ⟨#[44]⟩ + 1 := Lib.splitB_all _ (by decide) 0 _ s rfl
  refine ⟨Lib.splitB ⟨#[44]⟩ 0 (Lib.countB s ⟨#[44]⟩) s, Lib.hid h1, by rw [he, hl], fun j p hj => ?_, by rw [hw]; simp, by rw [hw]; exact (Below.refl _ _).alloc (Nat.le_refl _) _⟩
  rw [hw, blk_cell' (heap_at _ _ _ rfl) j]
  simp [hj]
theorem infoRes : (Tryz.prog.info? 25).map (fun i => (i.zero, i.size, i.bytes)) = some (some (.agg #[.string ⟨#[]⟩, .int .i64 0]), 2, 24) := by kernel_rfl
theorem splitC_size (c : UInt8) (l : List UInt8) : ∀ p ∈ splitC c l, p.length ≤ l.length := by
  induction l with
  | nil => simp [splitC]
  | cons b l ih =>
    intro p hp
    unfold splitC at hp
    split at hp
    · rcases List.mem_cons.1 hp with rfl | hp
      · simp
      · have := ih p hp; simp; omega
    · cases h : splitC c l with
      | nil => exact absurd h (splitC_ne c l)
      | cons q qs =>
        rw [h] at hp ih
        rcases List.mem_cons.1 hp with rfl | hp
        · have := ih q (by simp); simp; omega
        · have := ih p (by simp [hp]); simp; omega
theorem splitC_len (c : UInt8) (l : List UInt8) : (splitC c l).length ≤ l.length + 1 := by
  induction l with
  | nil => simp [splitC]
  | cons b l ih =>
    unfold splitC
    split
    · simp; omega
    · cases h : splitC c l with
      | nil => simp
      | cons q qs => rw [h] at ih; simp at ih ⊢; omega
theorem qparse_is (s : ByteArray) (a e : Int) (w : World) (hs : s.size ≤ 281474976710656) (hg : Glob w) (h : qParse (nm s) = (a, e)) :
    Calls Tryz.prog 34 #[.string s] w fun en w' => en = .returned (.tuple #[.int .i64 a, .int .i64 e]) ∧ Below w.heap.size w w' := by
  have := qparse_any s w hs hg
  rw [h] at this
  exact this
theorem nm_empty (s : ByteArray) : s.toList.isEmpty = decide (nm s = []) := by rw [nm_toList]; cases nm s <;> rfl
theorem qParse_range (l : List UInt8) : 0 ≤ (qParse l).1 ∧ (qParse l).1 ≤ 9223372036854775807 := by
  unfold qParse
  split
  · simp
  · split
    · simp
    · rename_i h
      have := (qFactor_range (l.drop (figs l))).1
      have h2 : 0 ≤ (decV 0 (l.take (figs l)) : Int) * qFactor (l.drop (figs l)) := Int.mul_nonneg (by omega) this
      simp only
      omega
theorem lastLt_at {out : List Res} {name : ByteArray} {r : Res} (h : out[out.length - 1]? = some r) : lastLt out name = slt r.name name := by
  unfold lastLt
  rw [List.getLast?_eq_getElem?, h]

set_option maxRecDepth 100000 in
set_option maxHeartbeats 2000000 in
theorem vparse_any (s : ByteArray) (w : World) (hs : s.size ≤ 100000) (hg : Glob w) :
    Calls Tryz.prog 9 #[.string s] w fun e w' => ∃ v, e = .returned (.tuple #[v, .int .i64 (vParse (nm s)).2]) ∧ w'.ownsRow w.heap.size 25 2 v (vParse (nm s)).1.length ((vParse (nm s)).1.flatMap encR) ∧ Below w.heap.size w w' := by
  have hne := nm_empty s
  have HG := Lib.hid hg
  clear hg
  by_cases h0 : nm s = []
  · rw [decide_eq_true h0] at hne
    have HV := Lib.hid (show vParse (nm s) = ([], 0) by simp [vParse, h0])
    clear h0
    go_enter Tryz.func9, Tryz.ntmps9
    go_wp2_with fail
    go_ret2
    exact ⟨_, by rw [HV.out]; rfl, by rw [HV.out]; exact own_nil' _ _ _ _, Below.refl _ _⟩
  · rw [decide_eq_false h0] at hne
    have HV := Lib.hid (show vParse (nm s) = partsGo [] (splitC 44 (nm s)) by simp [vParse, h0])
    clear h0
    go_enter Tryz.func9, Tryz.ntmps9
    go_wp2_with (go_at_call 32; refine (parts_any s _ (by omega) HG.out).mono ?_; rintro e w1 ⟨ps, hps, rfl, hcell, hsz, hB1⟩; have HC := Lib.hid hcell; have HSZ := Lib.hid hsz; clear hcell hsz)
    have hs1 := hB1.size
    have hpl : ps.length ≤ 100001 := by
      have h1 := splitC_len 44 (nm s)
      rw [← hps.out, List.length_map, nm_length] at h1
      omega
    go_loopw [4, 17] (fun v i wr => ∃ (k : Nat) (out : List Res), k ≤ ps.length ∧ i = .int .i64 k ∧ out.length = k ∧ Hid (partsGo [] (splitC 44 (nm s)) = partsGo out ((ps.drop k).map nm)) ∧ wr.ownsRow w1.heap.size 25 2 v out.length (out.flatMap encR) ∧ Below w1.heap.size w1 wr) (fun _ i _ => ps.length - (intOf i).toNat)
    case atStart => exact ⟨0, [], by omega, rfl, rfl, Lib.hid (by rw [List.drop_zero, hps.out]), own_nil' _ _ _ _, Below.refl _ _⟩
    case round =>
      obtain ⟨k, out, hk, rfl, hol, hs, hown, hB⟩ := hrel
      have hbs := hB.size
      by_cases hlt : k < ps.length
      · obtain ⟨p, hp⟩ : ∃ p, ps[k]? = some p := ⟨_, List.getElem?_eq_getElem hlt⟩
        have c0 := keep_cell hB (HC.out k p hp)
        have hps2 : p.size ≤ 100000 := by
          have h1 : nm p ∈ splitC 44 (nm s) := by rw [← hps.out]; exact List.mem_map_of_mem (List.mem_of_getElem? hp)
          have h2 := splitC_size _ _ _ h1
          rw [nm_length, nm_length] at h2
          omega
        have hst : (ps.drop k).map nm = nm p :: (ps.drop (k + 1)).map nm := by
          obtain ⟨h, rfl⟩ := List.getElem?_eq_some_iff.1 hp
          rw [List.drop_eq_getElem_cons h, List.map_cons]
        have HST := Lib.hid hst
        have HGW := Lib.hid ((HG.out.below hB1).below hB)
        clear hst hp
        have HOL := Lib.hid hol
        clear hol
        by_cases hc : (piece 61 (nm p)).length = (nm p).length
        · have HVK := Lib.hid (show vParse (nm s) = ([], 2) by rw [HV.out, hs.out, HST.out, partsGo, if_pos hc])
          have HCC := Lib.hid hc
          clear hc
          go_wp2_with (go_at_call 33; refine (cut_no p _ (by omega) HGW.out HCC.out).mono ?_; rintro e w2 ⟨rfl, q, rfl⟩)
          go_ret2
          exact ⟨_, by rw [HVK.out]; rfl, by rw [HVK.out]; exact own_nil' _ _ _ _, below_drewN' (below_then' hB1 hs1 hB) q⟩
        · obtain ⟨name, hname⟩ : ∃ name, ba (piece 61 (nm p)) = name := ⟨_, rfl⟩
          obtain ⟨rest, hrest⟩ : ∃ rest, (nm p).drop ((piece 61 (nm p)).length + 1) = rest := ⟨_, rfl⟩
          obtain ⟨lb, hlb⟩ : ∃ lb, lblB name = lb := ⟨_, rfl⟩
          obtain ⟨ll, hll⟩ : ∃ ll, lastLt out name = ll := ⟨_, rfl⟩
          obtain ⟨qn, qe, hq⟩ : ∃ qn qe, qParse rest = (qn, qe) := ⟨_, _, rfl⟩
          have hstep : partsGo out (nm p :: (ps.drop (k + 1)).map nm) = if !lb || decide (16 ≤ k) || !ll then ([], 2) else if qe ≠ 0 then ([], qe) else partsGo (out ++ [⟨name, qn⟩]) ((ps.drop (k + 1)).map nm) := by
            rw [partsGo, if_neg hc, hname, hlb, hll, hrest, hq, HOL.out]
          have hns : name.size ≤ 100000 := by
            rw [← hname, ba_size]
            have := piece_le 61 (nm p)
            rw [nm_length] at this
            omega
          have hrs : (ba rest).size ≤ 100000 := by
            rw [← hrest, ba_size, List.length_drop, nm_length]
            omega
          have hcut := cut_yes p wr (by omega) HGW.out hc
          rw [hname, hrest] at hcut
          have HCUT := Lib.hid hcut
          have HSTEP := Lib.hid hstep
          have HLB := Lib.hid hlb
          have HLL := Lib.hid hll
          have HQ := Lib.hid hq
          clear hcut hstep hlb hll hq hc hname hrest
          have hra : RAt wr _ out := own_RAt hown
          obtain ⟨A, c, rfl⟩ := own_shape hown
          go_upto_region 8 with ((go_at_call 33; refine HCUT.out.mono ?_; rintro e w2 ⟨rfl, q, rfl⟩))
          go_cut [4, 52] (fun v4 v wc => v4 = .slice A out.length c ∧ v = .bool (!lb || decide (16 ≤ k) || !ll) ∧ Below wr.heap.size wr wc)
          case first =>
            have HRA := Lib.hid hra
            clear hra
            have hbq : Below wr.heap.size wr (wr.drewN q) := below_drewN' (Below.refl _ _) q
            cases lb
            · go_wp2_with (go_at_call 24; refine (right_is name false _ (by omega) HLB.out).mono ?_; rintro e w3 ⟨rfl, hB3⟩; have hB4 := below_then' hbq hbq.size hB3)
              go_meet
              case rel => exact ⟨rfl, rfl, hB4⟩
            · by_cases h16 : 16 ≤ k
              · have hd : decide (16 ≤ k) = true := decide_eq_true h16
                have hd2 : decide ((16 : Int) ≤ (k : Int)) = true := decide_eq_true (by omega)
                have HD := Lib.hid hd
                clear h16 hd
                go_wp2_with (go_at_call 24; refine (right_is name true _ (by omega) HLB.out).mono ?_; rintro e w3 ⟨rfl, hB3⟩; have hB4 := below_then' hbq hbq.size hB3)
                go_meet
                case rel => exact ⟨rfl, by rw [HD.out]; rfl, hB4⟩
              · have hd : decide (16 ≤ k) = false := decide_eq_false h16
                have hd2 : decide ((16 : Int) ≤ (k : Int)) = false := decide_eq_false (by omega)
                have HD := Lib.hid hd
                clear h16 hd
                rcases Nat.eq_zero_or_pos k with hk0 | hkp
                · have hl : ll = true := by
                    rw [← HLL.out]
                    have : out = [] := List.eq_nil_of_length_eq_zero (by rw [HOL.out, hk0])
                    rw [this]; rfl
                  have hz : decide ((0 : Int) < (k : Int)) = false := decide_eq_false (by omega)
                  have hz2 : decide (0 < k) = false := decide_eq_false (by omega)
                  subst hl
                  clear hk0
                  go_wp2_with (go_at_call 24; refine (right_is name true _ (by omega) HLB.out).mono ?_; rintro e w3 ⟨rfl, hB3⟩; have hB4 := below_then' hbq hbq.size hB3)
                  go_meet
                  case rel => exact ⟨rfl, by rw [HD.out]; rfl, hB4⟩
                · have hz : decide ((0 : Int) < (k : Int)) = true := decide_eq_true (by omega)
                  have hz2 : decide (0 < k) = true := decide_eq_true (by omega)
                  obtain ⟨r, hr⟩ : ∃ r, out[k - 1]? = some r := ⟨_, List.getElem?_eq_getElem (by rw [HOL.out]; omega)⟩
                  have hlt2 : Op.bytesLess r.name.toList name.toList = ll := by
                    rw [← HLL.out, lastLt_at (by rw [HOL.out]; exact hr), nm_toList, nm_toList]; rfl
                  obtain ⟨A', c', e', hlm, hec⟩ := HRA.out.each
                  cases e'
                  have hkk : (k - 1 : Nat) < out.length := by rw [HOL.out]; omega
                  have hkl : out.length ≤ 9223372036854775807 := hlm
                  obtain ⟨bb, off, rfl, _, _⟩ := hec wr (Below.refl _ _) (k - 1) r hr
                  have HE := Lib.hid (fun (W : World) (hW : Below wr.heap.size wr W) => show W.cell? ⟨bb, off + (k - 1) * 2, none⟩ = some (.string r.name) by
                    obtain ⟨_, _, e, h, _⟩ := hec W hW (k - 1) r hr
                    cases e
                    exact h)
                  clear hec hr
                  go_wp2_with (go_at_call 24; refine (right_is name true _ (by omega) HLB.out).mono ?_; rintro e w3 ⟨rfl, hB3⟩; have hB4 := below_then' hbq hbq.size hB3; have d0 := HE.out _ hB4)
                  go_meet
                  case rel => exact ⟨rfl, by rw [HD.out]; simp, hB4⟩
          case rest =>
            obtain ⟨rfl, rfl, hBc⟩ := hcut
            obtain ⟨bad, hbad⟩ : ∃ bad, (!lb || decide (16 ≤ k) || !ll) = bad := ⟨_, rfl⟩
            have hst2 := HSTEP.out
            rw [hbad] at hst2
            rw [hbad]
            have HSTEP2 := Lib.hid hst2
            clear hst2 hbad
            have hBw := below_then' (below_then' hB1 hs1 hB) (by omega) hBc
            have hown2 := own_below' hown hBc
            have hbc2 := below_then' hB hbs hBc
            have hsc := hBc.size
            clear hown hra
            cases bad
            · have hpn := qParse_range rest
              rw [HQ.out] at hpn
              have hp0 : 0 ≤ qn := hpn.1
              have hp1 : qn ≤ 9223372036854775807 := hpn.2
              clear hpn
              by_cases hqe : qe = 0
              · have hqb : (qe != 0) = false := by simp [hqe]
                have HQE := Lib.hid hqe
                have hol2 : out.length ≤ 100001 := by rw [HOL.out]; omega
                clear hqe
                go_wp2_with (first
                  | (go_at_call 34; refine (qparse_is (ba rest) qn qe _ (by omega) (HGW.out.below hBc) HQ.out).mono ?_; rintro e w4 ⟨rfl, hB4⟩; have hown4 := own_below' hown2 hB4; have hbw4 := below_then' hbc2 (by omega) hB4; have hs4 := hB4.size)
                  | ((with_reducible refine gate_app (.tmp 61) (.tmp 65) ?_); refine app_own (w0 := w1) w1.heap.size rfl (.tmp 61) (.tmp 65) 22 25 (.agg #[.string ⟨#[]⟩, .int .i64 0]) 2 24 rfl Tryz.underlying22 infoRes rfl (by decide) (by decide) _ out.length _ [.string name, .int .i64 qn] rfl rfl rfl (by simp [Value.oneCell']) hown4 hbw4 (by omega) (by omega) ?_; intro v5 w5 hown5 hB5 hg5 hloc5 hsz5))
                refine ⟨⟨k + 1, out ++ [⟨name, qn⟩], by omega, by go_num, by rw [List.length_append, HOL.out]; rfl, Lib.hid ?_, ?_, hB5⟩, by simp [intOf]; omega⟩
                · rw [hs.out, HST.out, HSTEP2.out, if_neg (by simp), if_neg (by rw [HQE.out]; simp)]
                · simp only [List.length_append, List.length_singleton, List.flatMap_append, List.flatMap_singleton]; exact hown5
              · have hqb : (qe != 0) = true := by simp [hqe]
                have HVK := Lib.hid (show vParse (nm s) = ([], qe) by rw [HV.out, hs.out, HST.out, HSTEP2.out, if_neg (by simp), if_pos hqe])
                clear hqe
                go_wp2_with (go_at_call 34; refine (qparse_is (ba rest) qn qe _ (by omega) (HGW.out.below hBc) HQ.out).mono ?_; rintro e w4 ⟨rfl, hB4⟩)
                go_ret2
                exact ⟨_, by rw [HVK.out]; rfl, by rw [HVK.out]; exact own_nil' _ _ _ _, below_then' hBw (by omega) hB4⟩
            · have HVK := Lib.hid (show vParse (nm s) = ([], 2) by rw [HV.out, hs.out, HST.out, HSTEP2.out, if_pos rfl])
              go_wp2_with fail
              go_ret2
              exact ⟨_, by rw [HVK.out]; rfl, by rw [HVK.out]; exact own_nil' _ _ _ _, hBw⟩
      · have hd : ps.drop k = [] := List.drop_eq_nil_of_le (by omega)
        have HD := Lib.hid hd
        clear hd
        have HVK := Lib.hid (show vParse (nm s) = (out, 0) by rw [HV.out, hs.out, HD.out]; rfl)
        go_wp2_with fail
        go_ret2
        exact ⟨_, by rw [HVK.out]; rfl, by rw [HVK.out]; exact own_weaken' hown (by omega), below_then' hB1 hs1 hB⟩
end Go.Proofs.YtgjlgpaoilaikaaGreatDoor
