/-
  VectorSums walked: whatever the three vectors, it returns true.
-/
import Derived.Test.YtgjlgpaoilaikaaGreatDoorP2
import Derived.Test.YtgjlgpaoilaikaaGreatDoorW1
namespace Go.Proofs.YtgjlgpaoilaikaaGreatDoor
open Go.RowKit Go.Maps Go.Sort
attribute [local go_sem high] eq_wide
theorem radd_t (a b t : Int) (w : World) (ha : wOk a = true) (hb : wOk b = true) (hs : wOk (a + b) = true) (ht : satW (a + b) = t) :
    Calls Tryz.prog 17 #[.agg #[.int .i64 (wHi a), .int .u64 (wLo a)], .agg #[.int .i64 (wHi b), .int .u64 (wLo b)]] w fun e w' => e = .returned (.tuple #[.agg #[.int .i64 (wHi t), .int .u64 (wLo t)], .bool true]) ∧ Below w.heap.size w w' := by
  have := radd_at a b w ha hb
  rw [hs, ht] at this
  exact this
theorem lfits_is (va : Value) (xs : List Ent) (r : Bool) (w : World) (ha : VAt w va xs) (hr : lawFit xs = r) :
    Calls Tryz.prog 13 #[va] w fun e w' => e = .returned (.bool r) ∧ w = w' := by
  have := lfits_any va xs w ha
  rw [hr] at this
  exact this

set_option maxRecDepth 100000 in
set_option maxHeartbeats 2000000 in
theorem sums_any (va vb vc : Value) (a b c : List Ent) (w : World) (ha : VAt w va a) (hb : VAt w vb b) (hc : VAt w vc c) (hfa : VFine a) (hfb : VFine b) (hfc : VFine c) (hg : Glob w) :
    Calls Tryz.prog 4 #[.agg #[va, vb, vc]] w fun e w' => e = .returned (.bool true) ∧ Below w.heap.size w w' := by
  obtain ⟨A, ca, rfl, hlm, hcell⟩ := ha.each
  obtain ⟨Ab, cb, rfl, _, _⟩ := hb.each
  obtain ⟨Ac, cc, rfl, _, _⟩ := hc.each
  have HA := Lib.hid ha
  have HB := Lib.hid hb
  have HC := Lib.hid hc
  have HF := Lib.hid (And.intro hfa (And.intro hfb hfc))
  have HG := Lib.hid hg
  clear ha hb hc hfa hfb hfc hg hcell
  go_enter Tryz.func4, Tryz.ntmps4
  go_wp2_with fail
  obtain ⟨W1, hW1, HS, HK, hB1⟩ := box1 w #[.slice A a.length ca, .slice Ab b.length cb, .slice Ac c.length cc] 36
  rw [hW1]
  clear hW1
  obtain ⟨e0, e1, e2⟩ := blk3 HK.out
  have hw1 := HS.out
  go_loop [3] (fun i => ∃ k : Nat, k ≤ 3 ∧ i = .int .i64 k ∧ Hid ((1 ≤ k → lawFit a = true) ∧ (2 ≤ k → lawFit b = true) ∧ (3 ≤ k → lawFit c = true))) (fun i => 3 - (intOf i).toNat)
  case atStart => exact ⟨0, by omega, rfl, Lib.hid ⟨by omega, by omega, by omega⟩⟩
  case round =>
    obtain ⟨k, hk, rfl, hs⟩ := hrel
    have hkk : k = 0 ∨ k = 1 ∨ k = 2 ∨ k = 3 := by omega
    rcases hkk with rfl | rfl | rfl | rfl
    · obtain ⟨r, hr⟩ : ∃ r, lawFit a = r := ⟨_, rfl⟩
      have HR := Lib.hid hr
      clear hr
      cases r
      · go_wp2_with (first
          | (go_at_call 13; refine (lfits_is _ a false _ (HA.out.below hB1) HR.out).mono ?_; rintro e w2 ⟨rfl, rfl⟩)
          | (go_at_call 6; refine (alive_any _ (HG.out.below hB1)).mono ?_; rintro e w2 ⟨rfl, hb2⟩))
        go_ret
        exact ⟨rfl, below_then' hB1 hB1.size hb2⟩
      · go_wp2_with (first
          | (go_at_call 13; refine (lfits_is _ a true _ (HA.out.below hB1) HR.out).mono ?_; rintro e w2 ⟨rfl, rfl⟩))
        exact ⟨⟨1, by omega, by go_num, Lib.hid ⟨fun _ => HR.out, by omega, by omega⟩⟩, by simp [intOf]⟩
    · obtain ⟨r, hr⟩ : ∃ r, lawFit b = r := ⟨_, rfl⟩
      have HR := Lib.hid hr
      clear hr
      cases r
      · go_wp2_with (first
          | (go_at_call 13; refine (lfits_is _ b false _ (HB.out.below hB1) HR.out).mono ?_; rintro e w2 ⟨rfl, rfl⟩)
          | (go_at_call 6; refine (alive_any _ (HG.out.below hB1)).mono ?_; rintro e w2 ⟨rfl, hb2⟩))
        go_ret
        exact ⟨rfl, below_then' hB1 hB1.size hb2⟩
      · go_wp2_with (first
          | (go_at_call 13; refine (lfits_is _ b true _ (HB.out.below hB1) HR.out).mono ?_; rintro e w2 ⟨rfl, rfl⟩))
        exact ⟨⟨2, by omega, by go_num, Lib.hid ⟨fun _ => hs.out.1 (by omega), fun _ => HR.out, by omega⟩⟩, by simp [intOf]⟩
    · obtain ⟨r, hr⟩ : ∃ r, lawFit c = r := ⟨_, rfl⟩
      have HR := Lib.hid hr
      clear hr
      cases r
      · go_wp2_with (first
          | (go_at_call 13; refine (lfits_is _ c false _ (HC.out.below hB1) HR.out).mono ?_; rintro e w2 ⟨rfl, rfl⟩)
          | (go_at_call 6; refine (alive_any _ (HG.out.below hB1)).mono ?_; rintro e w2 ⟨rfl, hb2⟩))
        go_ret
        exact ⟨rfl, below_then' hB1 hB1.size hb2⟩
      · go_wp2_with (first
          | (go_at_call 13; refine (lfits_is _ c true _ (HC.out.below hB1) HR.out).mono ?_; rintro e w2 ⟨rfl, rfl⟩))
        exact ⟨⟨3, by omega, by go_num, Lib.hid ⟨fun _ => hs.out.1 (by omega), fun _ => hs.out.2.1 (by omega), fun _ => HR.out⟩⟩, by simp [intOf]⟩
    · obtain ⟨h1, h2, h3⟩ := hs.out
      have hla := lawFit_len (h1 (by omega))
      have hlb := lawFit_len (h2 (by omega))
      have hlc := lawFit_len (h3 (by omega))
      obtain ⟨x, q, hx, hlx, hfx, hcase⟩ := sum_cases a b HF.out.1 HF.out.2.1
      have HX := Lib.hid hx
      have HX2 := Lib.hid (show vAdd b a = (x, q) by rw [vAdd_comm]; exact hx)
      have HFX := Lib.hid hfx
      have HCS := Lib.hid hcase
      clear h1 h2 h3 hs hx hfx hcase
      have HA1 := Lib.hid (HA.out.below hB1)
      have HB1 := Lib.hid (HB.out.below hB1)
      have HC1 := Lib.hid (HC.out.below hB1)
      clear HA HB HC
      go_wp2_with fail
      -- Add(a, b)
      refine (vadd_is _ _ a b x q _ HA1.out HB1.out HF.out.1 HF.out.2.1 (by omega) (by omega) HX.out).mono ?_
      rintro e w2 ⟨vx, rfl, ho, hb2⟩
      obtain ⟨Ax, cx, rfl⟩ := own_shape ho
      have HX3 := Lib.hid (own_VAt ho)
      have HA2 := Lib.hid (HA1.out.below hb2)
      have HB2 := Lib.hid (HB1.out.below hb2)
      have HC2 := Lib.hid (HC1.out.below hb2)
      have f0 := keep_cell hb2 e0
      have f1 := keep_cell hb2 e1
      have f2 := keep_cell hb2 e2
      have hB2 := below_then' hB1 hB1.size hb2
      clear ho hb2 e0 e1 e2 hB1 HA1 HB1 HC1
      go_wp2_with fail
      -- Add(b, a)
      refine (vadd_is _ _ b a x q _ HB2.out HA2.out HF.out.2.1 HF.out.1 (by omega) (by omega) HX2.out).mono ?_
      rintro e w3 ⟨vy, rfl, ho, hb2⟩
      have HY4 := Lib.hid (own_VAt ho)
      have HX4 := Lib.hid (HX3.out.below hb2)
      have HA3 := Lib.hid (HA2.out.below hb2)
      have HB3 := Lib.hid (HB2.out.below hb2)
      have HC3 := Lib.hid (HC2.out.below hb2)
      have e0 := keep_cell hb2 f0
      have e1 := keep_cell hb2 f1
      have e2 := keep_cell hb2 f2
      have hB3 := below_then' hB2 hB2.size hb2
      clear ho hb2 f0 f1 f2 hB2 HA2 HB2 HC2 HX3
      go_wp2_with fail
      -- Same(x, y)
      refine (rsame_is _ _ x x true _ HX4.out HY4.out ((vSame_iff _ _).2 rfl)).mono ?_
      rintro e w4 ⟨rfl, hb2⟩
      have HX5 := Lib.hid (HX4.out.below hb2)
      have HA4 := Lib.hid (HA3.out.below hb2)
      have HB4 := Lib.hid (HB3.out.below hb2)
      have HC4 := Lib.hid (HC3.out.below hb2)
      have f0 := keep_cell hb2 e0
      have f1 := keep_cell hb2 e1
      have f2 := keep_cell hb2 e2
      have hB4 := below_then' hB3 hB3.size hb2
      clear hb2 e0 e1 e2 hB3 HA3 HB3 HC3 HX4 HY4
      rcases HCS.out with ⟨rfl, hsum⟩ | ⟨rfl, rfl⟩ | ⟨rfl, rfl⟩
      · have HSUM := Lib.hid hsum
        clear HCS hsum
        go_wp2_with fail
        -- Sub(x, b)
        refine (vsub_is _ _ x b a 0 _ HX5.out HB4.out HFX.out HF.out.2.1 (by omega) (by omega) HSUM.out.back).mono ?_
        rintro e w5 ⟨vu, rfl, ho, hb2⟩
        have HU5 := Lib.hid (own_VAt ho)
        have HX6 := Lib.hid (HX5.out.below hb2)
        have HA5 := Lib.hid (HA4.out.below hb2)
        have HB5 := Lib.hid (HB4.out.below hb2)
        have HC5 := Lib.hid (HC4.out.below hb2)
        have e0 := keep_cell hb2 f0
        have e1 := keep_cell hb2 f1
        have e2 := keep_cell hb2 f2
        have hB5 := below_then' hB4 hB4.size hb2
        clear ho hb2 f0 f1 f2 hB4 HA4 HB4 HC4 HX5
        go_wp2_with fail
        -- Sub(x, a)
        refine (vsub_is _ _ x a b 0 _ HX6.out HA5.out HFX.out HF.out.1 (by omega) (by omega) HSUM.out.back2).mono ?_
        rintro e w6 ⟨vv, rfl, ho, hb2⟩
        have HV6 := Lib.hid (own_VAt ho)
        have HU6 := Lib.hid (HU5.out.below hb2)
        have HX7 := Lib.hid (HX6.out.below hb2)
        have HA6 := Lib.hid (HA5.out.below hb2)
        have HB6 := Lib.hid (HB5.out.below hb2)
        have HC6 := Lib.hid (HC5.out.below hb2)
        have f0 := keep_cell hb2 e0
        have f1 := keep_cell hb2 e1
        have f2 := keep_cell hb2 e2
        have hB6 := below_then' hB5 hB5.size hb2
        clear ho hb2 e0 e1 e2 hB5 HA5 HB5 HC5 HX6 HU5
        go_wp2_with fail
        -- Same(u, a)
        refine (rsame_is _ _ a a true _ HU6.out HA6.out ((vSame_iff _ _).2 rfl)).mono ?_
        rintro e w7 ⟨rfl, hb2⟩
        have HV7 := Lib.hid (HV6.out.below hb2)
        have HX8 := Lib.hid (HX7.out.below hb2)
        have HA7 := Lib.hid (HA6.out.below hb2)
        have HB7 := Lib.hid (HB6.out.below hb2)
        have HC7 := Lib.hid (HC6.out.below hb2)
        have e0 := keep_cell hb2 f0
        have e1 := keep_cell hb2 f1
        have e2 := keep_cell hb2 f2
        have hB7 := below_then' hB6 hB6.size hb2
        clear hb2 f0 f1 f2 hB6 HA6 HB6 HC6 HX7 HU6 HV6
        go_wp2_with fail
        -- Same(v, b)
        refine (rsame_is _ _ b b true _ HV7.out HB7.out ((vSame_iff _ _).2 rfl)).mono ?_
        rintro e w8 ⟨rfl, hb2⟩
        have HX9 := Lib.hid (HX8.out.below hb2)
        have HA8 := Lib.hid (HA7.out.below hb2)
        have HB8 := Lib.hid (HB7.out.below hb2)
        have HC8 := Lib.hid (HC7.out.below hb2)
        have f0 := keep_cell hb2 e0
        have f1 := keep_cell hb2 e1
        have f2 := keep_cell hb2 e2
        have hB8 := below_then' hB7 hB7.size hb2
        clear hb2 e0 e1 e2 hB7 HA7 HB7 HC7 HX8 HV7
        go_wp2_with fail
        -- Right(x)
        refine (vright_is _ x true _ HX9.out HFX.out HSUM.out.rx).mono ?_
        rintro e w9 ⟨rfl, hb2⟩
        have HXX := Lib.hid (HX9.out.below hb2)
        have HAA := Lib.hid (HA8.out.below hb2)
        have HBB := Lib.hid (HB8.out.below hb2)
        have HCC := Lib.hid (HC8.out.below hb2)
        have e0 := keep_cell hb2 f0
        have e1 := keep_cell hb2 f1
        have e2 := keep_cell hb2 f2
        have hB9 := below_then' hB8 hB8.size hb2
        have HEACH := Lib.hid (show ∀ W, Below w9.heap.size w9 W → ∀ j y, a[j]? = some y → ∃ b off, A = some ⟨b, off, none⟩ ∧ W.cell? ⟨b, off + j * 3, none⟩ = some (.string y.name) ∧ W.cell? ⟨b, off + j * 3 + 1, none⟩ = some (.int .i64 (wHi y.n)) ∧ W.cell? ⟨b, off + j * 3 + 2, none⟩ = some (.int .u64 (wLo y.n)) from by
          obtain ⟨A', c', he, _, h⟩ := HAA.out.each
          cases he
          exact h)
        clear hb2 f0 f1 f2 hB8 HA8 HB8 HC8 HX9
        go_wp2_with fail
        go_loopw [18] (fun i wr => ∃ k : Nat, k ≤ a.length ∧ i = .int .i64 k ∧ Below w9.heap.size w9 wr) (fun i _ => a.length - (intOf i).toNat)
        case atStart => exact ⟨0, by omega, rfl, Below.refl _ _⟩
        case round =>
          obtain ⟨k, hk, rfl, hB⟩ := hrel
          have hbs := hB.size
          by_cases hlt : k < a.length
          · obtain ⟨y, hy⟩ : ∃ y, a[k]? = some y := ⟨_, List.getElem?_eq_getElem hlt⟩
            obtain ⟨g0, off, rfl, c0, c1, c2⟩ := HEACH.out wr hB k y hy
            have hym := List.mem_of_getElem? hy
            obtain ⟨hw1, hw2⟩ := HSUM.out.each y hym
            have hyo := (HF.out.1 y hym).2
            obtain ⟨t, ht⟩ : ∃ t, satW (y.n + vGet b y.name) = t := ⟨_, rfl⟩
            rw [ht] at hw2
            have HT := Lib.hid ht
            have HW1 := Lib.hid hw1
            have HW2 := Lib.hid hw2
            have HYO := Lib.hid hyo
            have HBr := Lib.hid (HBB.out.below hB)
            have HXr := Lib.hid (HXX.out.below hB)
            have hgo := Lib.hid (vGet_ok HF.out.2.1 y.name)
            have hbr : Below wr.heap.size wr wr := Below.refl _ _
            clear hy hym hw1 hw2 hyo ht
            go_upto_region 25 with (fail)
            go_cut [19, 20] (fun v19 v20 wc => ∃ g, v19 = .pointer (some ⟨g, 0, none⟩) ∧ v20 = .bool true ∧ Below wr.heap.size wr wc ∧ wc.heap[g]? = some (.cells #[.int .i64 (wHi t), .int .u64 (wLo t)] 41 (0, 0)))
            case first =>
              go_region_held3 (fun w' => w'.cell? ⟨g0, off + k * 3, none⟩ = some (.string y.name) ∧ w'.cell? ⟨g0, off + k * 3 + 1, none⟩ = some (.int .i64 (wHi y.n)) ∧ w'.cell? ⟨g0, off + k * 3 + 2, none⟩ = some (.int .u64 (wLo y.n)) ∧ Below wr.heap.size wr w')
                (((try dsimp only); (try go_split_ands); (repeat' apply And.intro) <;> first | assumption | (exact keep_cell (bk_alloc hBw _) c0) | (exact keep_cell (bk_alloc hBw _) c1) | (exact keep_cell (bk_alloc hBw _) c2) | (exact bk_alloc hBw _) | (exact bk_put2 hBw (by omega)) | (exact keep_cell (bk_put2 hBw (by omega)) c0) | (exact keep_cell (bk_put2 hBw (by omega)) c1) | (exact keep_cell (bk_put2 hBw (by omega)) c2) | (apply keep_cell <;> assumption) | (apply bk_drew; assumption) | (apply bk_then <;> assumption) | (apply bk_alloc; assumption) | (apply bk_alloc; apply bk_drew; assumption) | (apply bk_drew; apply bk_alloc; assumption) | (go_keep; done)))
                (first
                  | (go_at_call 18; go_split_ands; refine (get_is _ b y.name _ _ (HBr.out.below (by assumption)) rfl).mono ?_; rintro e wa ⟨rfl, hBa⟩; have hBw := bk_then (w := wr) (by assumption) hBa; have hsz := hBw.size; (first | (have kb := blk_below' kb hBa) | (have kb := blk_new hBa) | (have kb := blk_newD hBa) | skip); (first | (have kz := blk2 kb; obtain ⟨z0, z1, f0, f1⟩ := kz) | skip))
                  | (go_at_call 17; go_split_ands; refine (radd_t y.n (vGet b y.name) t _ HYO.out hgo.out HW1.out HT.out).mono ?_; rintro e wc ⟨rfl, hBc⟩; have hBw := bk_then (w := wr) (by assumption) hBc; have hsz := hBw.size; (first | (have kb := blk_below' kb hBc) | (have kb := blk_new hBc) | (have kb := blk_newD hBc) | skip); (first | (have kz := blk2 kb; obtain ⟨z0, z1, f0, f1⟩ := kz) | skip)))
              all_goals
                go_wp2_with fail
                go_meet
                case rel => exact (by first | exact ⟨_, rfl, rfl, bk_alloc hBw _, heap_at _ _ _ rfl⟩ | exact ⟨_, rfl, rfl, bk_put2 hBw (by omega), blk_put2 kb _ _⟩)
            case rest =>
              obtain ⟨g, rfl, rfl, hBc, hkg⟩ := hcut
              obtain ⟨z0, z1, _, _⟩ := blk2 hkg
              have HXc := Lib.hid (HXr.out.below hBc)
              have hBd := below_then' hB hbs hBc
              have d0 := bw_cell (keep_cell hBc c0)
              have q0 := bw_cell z0
              have q1 := bw_cell z1
              clear hkg z0 z1 c0 c1 c2
              go_wp2_with fail
              refine wp_region_bw (by kernel_rfl) (by kernel_rfl) ?_
              repeat (go_big_quiet_step (first
                | (go_at_call 18; exact Calls.bw (get_is _ x y.name t _ (HXc.out.below (Bw.h _)) HW2.out))))
              refine wpQuiet_nil ?_
              intro W2 hw'
              obtain ⟨⟨_, hB2⟩, hw''⟩ := hw'
              subst hw''
              have hB3 := below_then' hBd hBd.size hB2
              clear q0 q1 d0
              go_wp2_with fail
              exact ⟨⟨k + 1, by omega, by go_num, hB3⟩, by simp [intOf]; omega⟩
          · obtain ⟨wl, i, hwl, hlw, hfw, hci⟩ := sum_cases x c HFX.out HF.out.2.2
            obtain ⟨z, j, hz, hlz, hfz, hcj⟩ := sum_cases b c HF.out.2.1 HF.out.2.2
            obtain ⟨o, q, ho, hlo, hfo, hcq⟩ := sum_cases a z HF.out.1 hfz
            obtain ⟨r, hr⟩ : ∃ r, vSame wl o = r := ⟨_, rfl⟩
            have HFZ := Lib.hid hfz
            have HWL := Lib.hid hwl
            have HZ := Lib.hid hz
            have HO := Lib.hid ho
            have HR := Lib.hid hr
            have HFIN := Lib.hid (show (i = 0 ∧ j = 0 ∧ q = 0 ∧ r = true) ∨ (i = 0 ∧ j = 0 ∧ q = 3) ∨ (i = 0 ∧ j = 0 ∧ q = 1) ∨ (i = 0 ∧ j = 3) ∨ (i = 0 ∧ j = 1) ∨ i = 3 ∨ i = 1 from by
              have hh := sums_one HX.out hwl hz ho
              rw [hr] at hh
              rcases hci with ⟨rfl, _⟩ | ⟨rfl, _⟩ | ⟨rfl, _⟩ <;> rcases hcj with ⟨rfl, _⟩ | ⟨rfl, _⟩ | ⟨rfl, _⟩ <;> rcases hcq with ⟨rfl, _⟩ | ⟨rfl, _⟩ | ⟨rfl, _⟩ <;> simp at hh ⊢ <;> exact hh)
            clear hwl hz ho hr hlw hfw hci hfz hcj hlo hfo hcq
            have f1 := keep_cell hB e1
            have f2 := keep_cell hB e2
            have HX1 := Lib.hid (HXX.out.below hB)
            have HA1 := Lib.hid (HAA.out.below hB)
            have HB1 := Lib.hid (HBB.out.below hB)
            have HC1 := Lib.hid (HCC.out.below hB)
            have hB1 := below_then' hB9 hB9.size hB
            clear hB hB9 HXX HAA HBB HCC e0 e1 e2 HEACH
            go_wp2_with fail
            -- Add(x, c)
            refine (vadd_is _ _ x c wl i _ HX1.out HC1.out HFX.out HF.out.2.2 (by omega) (by omega) HWL.out).mono ?_
            rintro e w10 ⟨vw, rfl, ho, hb2⟩
            have HW2 := Lib.hid (own_VAt ho)
            have HA2 := Lib.hid (HA1.out.below hb2)
            have HB2 := Lib.hid (HB1.out.below hb2)
            have HC2 := Lib.hid (HC1.out.below hb2)
            have e1 := keep_cell hb2 f1
            have e2 := keep_cell hb2 f2
            have hB2 := below_then' hB1 hB1.size hb2
            clear ho hb2 f1 f2 hB1 HA1 HB1 HC1 HX1
            go_wp2_with fail
            -- Add(b, c)
            refine (vadd_is _ _ b c z j _ HB2.out HC2.out HF.out.2.1 HF.out.2.2 (by omega) (by omega) HZ.out).mono ?_
            rintro e w11 ⟨vz, rfl, ho, hb2⟩
            have HZ3 := Lib.hid (own_VAt ho)
            have HW3 := Lib.hid (HW2.out.below hb2)
            have HA3 := Lib.hid (HA2.out.below hb2)
            have hB3 := below_then' hB2 hB2.size hb2
            clear ho hb2 e1 e2 hB2 HA2 HB2 HC2 HW2
            go_wp2_with fail
            -- Add(a, z)
            refine (vadd_is _ _ a z o q _ HA3.out HZ3.out HF.out.1 HFZ.out (by omega) (by omega) HO.out).mono ?_
            rintro e w12 ⟨vo, rfl, ho, hb2⟩
            have HO4 := Lib.hid (own_VAt ho)
            have HW4 := Lib.hid (HW3.out.below hb2)
            have hB4 := below_then' hB3 hB3.size hb2
            clear ho hb2 hB3 HA3 HW3 HZ3
            go_wp2_with fail
            -- Same(w, o)
            refine (rsame_is _ _ wl o r _ HW4.out HO4.out HR.out).mono ?_
            rintro e w13 ⟨rfl, hb2⟩
            have hB5 := below_then' hB4 hB4.size hb2
            have hfin := HFIN.out
            clear hb2 hB4 HO4 HW4 HFIN HWL HZ HO HR
            rcases hfin with ⟨rfl, rfl, rfl, rfl⟩ | ⟨rfl, rfl, rfl⟩ | ⟨rfl, rfl, rfl⟩ | ⟨rfl, rfl⟩ | ⟨rfl, rfl⟩ | rfl | rfl
            all_goals
              go_wp2_with (go_at_call 6; refine (alive_any _ (HG.out.below hB5)).mono ?_; rintro e w14 ⟨rfl, hb2⟩)
              go_ret
              exact ⟨rfl, below_then' hB5 hB5.size hb2⟩
      · go_wp2_with (go_at_call 6; refine (alive_any _ (HG.out.below hB4)).mono ?_; rintro e w5 ⟨rfl, hb2⟩)
        go_ret
        exact ⟨rfl, below_then' hB4 hB4.size hb2⟩
      · go_wp2_with (go_at_call 6; refine (alive_any _ (HG.out.below hB4)).mono ?_; rintro e w5 ⟨rfl, hb2⟩)
        go_ret
        exact ⟨rfl, below_then' hB4 hB4.size hb2⟩
end Go.Proofs.YtgjlgpaoilaikaaGreatDoor
