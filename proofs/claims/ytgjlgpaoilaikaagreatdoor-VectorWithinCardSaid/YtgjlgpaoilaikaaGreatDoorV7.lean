/-
  Layer 4: the program's both, at a sum and at a difference; Add, Sub.
-/
import Derived.Test.YtgjlgpaoilaikaaGreatDoorV6
namespace Go.Proofs.YtgjlgpaoilaikaaGreatDoor
open Go.RowKit Go.Maps Go.Sort

/-- what the map says behind a list of names, each one's number being told by h -/
def hStep (h : ByteArray → Int) (f : List UInt8 → Option Int) (x : Ent) : List UInt8 → Option Int := upd f (nm x.name) (some (h x.name))
def hOf (h : ByteArray → Int) (l : List Ent) : List UInt8 → Option Int := l.foldl (hStep h) (fun _ => none)
theorem hOf_dom (h : ByteArray → Int) : ∀ (l : List Ent) (f : List UInt8 → Option Int) (s : List UInt8), ((l.foldl (hStep h) f) s).isSome = ((f s).isSome || (l.map fun x => nm x.name).contains s)
  | [], f, s => by simp
  | x :: l, f, s => by
    rw [List.foldl_cons, hOf_dom h l, List.map_cons, List.contains_cons]
    unfold hStep upd
    by_cases hs : s = nm x.name
    · subst hs; simp
    · have : (s == nm x.name) = false := by simpa using hs
      simp [hs, this]
def namesE (l : List Ent) : List (List UInt8) := dd (l.map fun x => nm x.name)
theorem namesE_nodup (l : List Ent) : (namesE l).Nodup := dd_nodup _
theorem namesE_mem (h : ByteArray → Int) (l : List Ent) (s : List UInt8) : s ∈ namesE l ↔ (hOf h l s).isSome = true := by
  unfold namesE hOf
  rw [hOf_dom, dd_mem]
  simp
/-- the program's answer -/
def bothH (h : ByteArray → Int) (a b : List Ent) : List Ent × Int :=
  if vRight a && vRight b then (if (a ++ b).any (fun x => !wOk (h x.name)) then ([], 3) else (vMade (hOf h (a ++ b)) ((namesE (a ++ b)).mergeSort leB), 0)) else ([], 1)
theorem VFine.append {a b : List Ent} (ha : VFine a) (hb : VFine b) : VFine (a ++ b) := fun x hx => (List.mem_append.1 hx).elim (ha x) (hb x)
theorem row_turned {W W2 : World} {base b n : Nat} {v : Value} {xs : List Value} (h : W.ownsRow base 45 3 v n xs) (hb : b < base) (ht : W.mapTurned W2 b) : W2.ownsRow base 45 3 v n xs := by
  refine h.kept ht.grown ?_
  rcases h.2 with ⟨rfl, _⟩ | ⟨g, cap, cur, rfl, hg, _⟩
  · simp [Value.ownBlock]
  · simp only [Value.ownBlock, ne_eq, Option.some.injEq]; omega
theorem satW_of {n : Int} (h : wOk n = true) : satW n = n := by simp [satW, h]

set_option maxRecDepth 100000 in
set_option maxHeartbeats 4000000 in
theorem both_add (va vb : Value) (xs ys : List Ent) (w : World) (ha : VAt w va xs) (hb : VAt w vb ys) (hfa : VFine xs) (hfb : VFine ys) (hla : xs.length ≤ 10000000) (hlb : ys.length ≤ 10000000) :
    Calls Tryz.prog 38 #[va, vb, .func (.func 25) #[] #[]] w fun e w' => ∃ v, e = .returned (.tuple #[v, .int .i64 (bothH (fun s => vGet xs s + vGet ys s) xs ys).2]) ∧ w'.ownsRow w.heap.size 45 3 v (bothH (fun s => vGet xs s + vGet ys s) xs ys).1.length ((bothH (fun s => vGet xs s + vGet ys s) xs ys).1.flatMap encE) ∧ Below w.heap.size w w' := by
  obtain ⟨h, hh⟩ : ∃ h : ByteArray → Int, (fun s => vGet xs s + vGet ys s) = h := ⟨_, rfl⟩
  have hhs : ∀ s, vGet xs s + vGet ys s = h s := fun s => by rw [← hh]
  rw [hh]
  have HH := Lib.hid hhs
  clear hh hhs
  obtain ⟨ra, hra⟩ : ∃ r, vRight xs = r := ⟨_, rfl⟩
  obtain ⟨rb, hrb⟩ : ∃ r, vRight ys = r := ⟨_, rfl⟩
  have hv : bothH h xs ys = if ra && rb then (if (xs ++ ys).any (fun x => !wOk (h x.name)) then ([], 3) else (vMade (hOf h (xs ++ ys)) ((namesE (xs ++ ys)).mergeSort leB), 0)) else ([], 1) := by rw [bothH, hra, hrb]
  have HA := Lib.hid ha
  have HB := Lib.hid hb
  have HFA := Lib.hid hfa
  have HFB := Lib.hid hfb
  have HRA := Lib.hid hra
  have HRB := Lib.hid hrb
  clear ha hb hfa hfb hra hrb
  have hmk := fun (u : World) => run_makeMap (P := Tryz.prog) 55 u
  cases hab : (ra && rb)
  · rw [hab] at hv
    have HV := Lib.hid (show bothH h xs ys = ([], 1) from hv)
    clear hv hmk
    cases ra
    · go_enter Tryz.func38, Tryz.ntmps38
      go_wp2_with (go_at_call 16; refine (vright_is va xs false _ HA.out HFA.out HRA.out).mono ?_; rintro e w1 ⟨rfl, hB1⟩)
      go_ret2
      exact ⟨_, by rw [HV.out]; rfl, by rw [HV.out]; exact own_nil' _ _ _ _, hB1⟩
    · cases rb
      · go_enter Tryz.func38, Tryz.ntmps38
        go_wp2_with (first
          | (go_at_call_of 16 va; refine (vright_is va xs true _ HA.out HFA.out HRA.out).mono ?_; rintro e w1 ⟨rfl, hB1⟩)
          | (go_at_call_of 16 vb; refine (vright_is vb ys false _ (HB.out.below hB1) HFB.out HRB.out).mono ?_; rintro e w2 ⟨rfl, hB2⟩))
        go_ret2
        exact ⟨_, by rw [HV.out]; rfl, by rw [HV.out]; exact own_nil' _ _ _ _, below_then' hB1 hB1.size hB2⟩
      · cases hab
  · rw [hab] at hv
    obtain ⟨rfl, rfl⟩ : ra = true ∧ rb = true := by simpa using hab
    clear hab
    have HV := Lib.hid (show bothH h xs ys = if (xs ++ ys).any (fun x => !wOk (h x.name)) then ([], 3) else (vMade (hOf h (xs ++ ys)) ((namesE (xs ++ ys)).mergeSort leB), 0) from hv)
    clear hv
    obtain ⟨zs, hzs⟩ : ∃ zs, xs ++ ys = zs := ⟨_, rfl⟩
    have hzl : zs.length ≤ 20000000 := by rw [← hzs, List.length_append]; omega
    have HFZ := Lib.hid (show VFine zs from hzs ▸ HFA.out.append HFB.out)
    have HZ := Lib.hid hzs
    rw [hzs] at HV
    clear hzs
    obtain ⟨A1, c1, rfl, _, _⟩ := HA.out.shape
    obtain ⟨A2, c2, rfl, _, _⟩ := HB.out.shape
    go_enter Tryz.func38, Tryz.ntmps38
    go_upto_region 4 with (first
      | (go_at_call_of 16 (Value.slice A1 xs.length c1); refine (vright_is _ xs true _ HA.out HFA.out HRA.out).mono ?_; rintro e w1 ⟨rfl, hB1⟩)
      | (go_at_call 16; refine (vright_is _ ys true _ (HB.out.below hB1) HFB.out HRB.out).mono ?_; rintro e w2 ⟨rfl, hB2⟩))
    have hB12 := below_then' hB1 hB1.size hB2
    obtain ⟨WM, hWM⟩ : ∃ WM, w2.alloc (.map #[] 0) = WM := ⟨_, rfl⟩
    have hvm0 : VM WM w2.heap.size 0 (fun _ => none) := by rw [← hWM]; exact MapIs.made w2
    have hB0 : Below w2.heap.size w2 WM := by rw [← hWM]; exact (Below.refl _ _).alloc (Nat.le_refl _) _
    have hszm : WM.heap.size = w2.heap.size + 1 := by rw [← hWM]; simp
    rw [hWM]
    clear hWM hmk
    have HVM0 := Lib.hid hvm0
    have hBM := below_then' hB12 (by have := hB12.size; omega) hB0
    have hbm : w.heap.size ≤ w2.heap.size := hB12.size
    obtain ⟨bM, hbM⟩ : ∃ bM, w2.heap.size = bM := ⟨_, rfl⟩
    rw [hbM] at hszm hbm HVM0 ⊢
    clear hvm0 hB1 hB2 hB12 hB0 hbM
    go_wp2_with (first
      | (go_at_call 62; obtain ⟨WA, hWA, HSA, HKA, hBA⟩ := box1 WM #[.slice A1 xs.length c1, .slice A2 ys.length c2] 27; rw [hWA]; clear hWA; obtain ⟨r0, r1, _, _⟩ := blk2 HKA.out; rw [hszm] at r0 r1; refine (concat_any _ 2 _ _ xs ys _ r0 r1 ((HA.out.below hBM).below hBA) ((HB.out.below hBM).below hBA) (by omega) (by omega)).mono ?_; rintro e w3 ⟨cv, rfl, hcv, hB3⟩; rw [HZ.out] at hcv; obtain ⟨A3, c3, rfl, _, _⟩ := (own_VAt hcv).shape))
    have hsA := HSA.out
    have HV3 := Lib.hid ((HVM0.out.below hBA).below hB3)
    have hBw3 := below_then' (below_then' hBM (by omega) hBA) (by omega) hB3
    obtain ⟨BA, hBAe⟩ : ∃ BA, WA.heap.size = BA := ⟨_, rfl⟩
    rw [hBAe] at hcv hsA
    clear hBAe hBA hB3 hBM HVM0 HKA r0 r1
    go_loopw [27] (fun i wr => ∃ k : Nat, k ≤ zs.length ∧ i = .int .i64 k ∧ Hid ((zs.take k).any (fun x => !wOk (h x.name)) = false) ∧ Hid (VM wr bM k (hOf h (zs.take k))) ∧ Hid (wr.ownsRow BA 45 3 (.slice A3 zs.length c3) zs.length (zs.flatMap encE)) ∧ Below w.heap.size w wr) (fun i _ => zs.length - (intOf i).toNat)
    case atStart => exact ⟨0, by omega, rfl, Lib.hid (by simp), HV3, Lib.hid hcv, hBw3⟩
    case round =>
      clear hcv hBw3 HV3
      obtain ⟨k, hk, rfl, hs, HVM, HCV, hB⟩ := hrel
      have hbs := hB.size
      have hvlt := HVM.out.lt
      by_cases hlt : k < zs.length
      · obtain ⟨x, hx⟩ : ∃ x, zs[k]? = some x := ⟨_, List.getElem?_eq_getElem hlt⟩
        obtain ⟨A', c', eq', _, hcell⟩ := (own_VAt HCV.out).each
        cases eq'
        obtain ⟨b, off, rfl, e0, e1, e2⟩ := hcell wr (Below.refl _ _) k x hx
        have hxn := (HFZ.out x (List.mem_of_getElem? hx)).1
        have hga := vGet_ok HFA.out x.name
        have hgb := vGet_ok HFB.out x.name
        obtain ⟨n, hn⟩ : ∃ n, h x.name = n := ⟨_, rfl⟩
        have hhx := HH.out x.name
        rw [hn] at hhx
        obtain ⟨ok, hok⟩ : ∃ ok, wOk n = ok := ⟨_, rfl⟩
        have htk : (zs.take (k + 1)).any (fun x => !wOk (h x.name)) = !ok := by
          rw [List.take_add_one, List.any_append, hs.out, hx]; simp [hn, hok]
        have hbad : ok = false → bothH h xs ys = ([], 3) := fun hb => by
          have : zs.any (fun x => !wOk (h x.name)) = true := List.any_eq_true.2 ⟨x, List.mem_of_getElem? hx, by rw [hn, hok, hb]; rfl⟩
          rw [HV.out, this]; rfl
        have hft : hOf h (zs.take (k + 1)) = upd (hOf h (zs.take k)) (nm x.name) (some n) := by
          unfold hOf
          rw [List.take_add_one, List.foldl_append, hx, ← hn]; rfl
        have hso := satW_ok n
        obtain ⟨sm, hsm⟩ : ∃ sm, satW n = sm := ⟨_, rfl⟩
        have HT := Lib.hid htk
        have HBD := Lib.hid hbad
        have HFT := Lib.hid hft
        have HHX := Lib.hid hhx
        have HSM := Lib.hid hsm
        have HOK := Lib.hid hok
        clear htk hbad hft hhx hsm hok hn hx hcell hso
        go_upto_region 7 with (fail)
        obtain ⟨W1, hW1, HS, HK, hB1⟩ := box1 wr #[.string x.name, .int .i64 (wHi x.n), .int .u64 (wLo x.n)] 45
        rw [hW1]
        clear hW1
        obtain ⟨c0, _, _⟩ := blk3 HK.out
        have hBw1 := below_then' hB hbs hB1
        have HA1 := Lib.hid (HA.out.below hBw1)
        have HB1 := Lib.hid (HB.out.below hBw1)
        have hbr : Below W1.heap.size W1 W1 := Below.refl _ _
        clear e0 e1 e2
        go_cut [11, 12] (fun v11 v12 wc => ∃ g, v11 = .pointer (some ⟨g, 0, none⟩) ∧ v12 = .bool ok ∧ Below W1.heap.size W1 wc ∧ wc.heap[g]? = some (.cells #[.int .i64 (wHi sm), .int .u64 (wLo sm)] 41 (0, 0)))
        case first =>
          go_region_held3 (fun w' => w'.cell? ⟨wr.heap.size, 0, none⟩ = some (.string x.name) ∧ Below W1.heap.size W1 w')
            (((try dsimp only); (try go_split_ands); (repeat' apply And.intro) <;> first | assumption | (exact keep_cell (bk_alloc hBw _) c0) | (exact bk_alloc hBw _) | (exact bk_put2 hBw (by omega)) | (exact keep_cell (bk_put2 hBw (by omega)) c0) | (apply keep_cell <;> assumption) | (apply bk_drew; assumption) | (apply bk_then <;> assumption) | (apply bk_alloc; assumption) | (apply bk_alloc; apply bk_drew; assumption) | (apply bk_drew; apply bk_alloc; assumption) | (go_keep; done)))
            (first
              | (go_at_call_of 18 (Value.slice A1 xs.length c1); go_split_ands; refine (get_is _ xs x.name (vGet xs x.name) _ (HA1.out.below (by assumption)) rfl).mono ?_; rintro e wa ⟨rfl, hBa⟩; have hBw := bk_then (w := W1) (by assumption) hBa; have hsz := hBw.size; (first | (have kb := blk_below' kb hBa) | (have kb := blk_new hBa) | (have kb := blk_newD hBa) | skip); (first | (have kz := blk2 kb; obtain ⟨z0, z1, f0, f1⟩ := kz) | skip))
              | (go_at_call_of 18 (Value.slice A2 ys.length c2); go_split_ands; refine (get_is _ ys x.name (vGet ys x.name) _ (HB1.out.below (by assumption)) rfl).mono ?_; rintro e wb ⟨rfl, hBb⟩; have hBw := bk_then (w := W1) (by assumption) hBb; have hsz := hBw.size; (first | (have kb := blk_below' kb hBb) | (have kb := blk_new hBb) | (have kb := blk_newD hBb) | skip); (first | (have kz := blk2 kb; obtain ⟨z0, z1, f0, f1⟩ := kz) | skip))
              | (go_at_call 25; go_split_ands; refine (wadd_is (vGet xs x.name) (vGet ys x.name) sm _ hga hgb (by rw [HHX.out]; exact HSM.out)).mono ?_; rintro e wc ⟨rfl, hBc⟩; have hBw := bk_then (w := W1) (by assumption) hBc; have hsz := hBw.size; (first | (have kb := blk_below' kb hBc) | (have kb := blk_new hBc) | (have kb := blk_newD hBc) | skip); (first | (have kz := blk2 kb; obtain ⟨z0, z1, f0, f1⟩ := kz) | skip); rw [HHX.out, HOK.out]))
          all_goals
            go_wp2_with fail
            go_meet
            case rel => exact (by first | exact ⟨_, rfl, rfl, bk_alloc hBw _, heap_at _ _ _ rfl⟩ | exact ⟨_, rfl, rfl, bk_put2 hBw (by omega), blk_put2 kb _ _⟩)
        case rest =>
          obtain ⟨g, rfl, rfl, hBc, hkg⟩ := hcut
          have d0 := keep_cell hBc c0
          obtain ⟨z0, z1, _, _⟩ := blk2 hkg
          have hBwc := below_then' hBw1 (by have := HS.out; omega) hBc
          have HCV2 := Lib.hid (own_below' (own_below' HCV.out hB1) hBc)
          have HVM2 := Lib.hid ((HVM.out.below hB1).below hBc)
          have HLT := Lib.hid (show bM < BA by omega)
          have HBWC := Lib.hid hBwc
          clear c0 hkg hvlt hsA hszm hbr hBw1 hBwc
          cases ok
          · have HBD2 := Lib.hid (HBD.out rfl)
            clear HBD
            go_wp2_with fail
            go_ret2
            exact ⟨_, by rw [HBD2.out]; rfl, by rw [HBD2.out]; exact own_nil' _ _ _ _, HBWC.out⟩
          · have hsn : sm = n := by rw [← HSM.out, satW_of HOK.out]
            obtain ⟨w4, hrun, hvm, htn⟩ := VM.store HVM2.out (by omega) x.name hxn sm
            have HVM4 := Lib.hid hvm
            have HSN := Lib.hid hsn
            clear hvm hsn
            go_wp2_with fail
            refine ⟨⟨k + 1, by omega, by go_num, Lib.hid ?_, Lib.hid ?_, Lib.hid (row_turned HCV2.out HLT.out htn), turned_below HBWC.out hbm htn⟩, by simp [intOf]; omega⟩
            · rw [HT.out]; rfl
            · rw [HFT.out, ← HSN.out]; exact HVM4.out
      · have htk : zs.take k = zs := List.take_of_length_le (by omega)
        have hgood : zs.any (fun x => !wOk (h x.name)) = false := by have := hs.out; rwa [htk] at this
        have HV2 := Lib.hid (show bothH h xs ys = (vMade (hOf h zs) ((namesE zs).mergeSort leB), 0) by rw [HV.out, hgood]; rfl)
        have hvm := HVM.out
        rw [htk] at hvm
        have HVL := Lib.hid hvm
        have hnl : (namesE zs).length ≤ 100000000 := by have := dd_length (zs.map fun x => nm x.name); simp at this; unfold namesE; omega
        have hns : ∀ s ∈ namesE zs, s.length ≤ 9223372036854775807 := fun s hs => by
          obtain ⟨x, hx, rfl⟩ := List.mem_map.1 ((dd_mem s _).1 hs)
          exact (HFZ.out x hx).1
        have HNS := Lib.hid hns
        clear htk hgood hvm hns HVM
        go_wp2_with (go_at_call 27; refine (made_any _ bM k (hOf h zs) HVL.out (by omega) (namesE_nodup zs) (namesE_mem h zs) hnl HNS.out).mono ?_; rintro e w5 ⟨v, rfl, hown, hB5⟩)
        go_ret2
        exact ⟨_, by rw [HV2.out]; rfl, by rw [HV2.out]; exact own_weaken' hown (by omega), below_then' hB hbs hB5⟩

set_option maxRecDepth 100000 in
theorem vadd_any (va vb : Value) (xs ys : List Ent) (w : World) (ha : VAt w va xs) (hb : VAt w vb ys) (hfa : VFine xs) (hfb : VFine ys) (hla : xs.length ≤ 10000000) (hlb : ys.length ≤ 10000000) :
    Calls Tryz.prog 14 #[va, vb] w fun e w' => ∃ v, e = .returned (.tuple #[v, .int .i64 (bothH (fun s => vGet xs s + vGet ys s) xs ys).2]) ∧ w'.ownsRow w.heap.size 45 3 v (bothH (fun s => vGet xs s + vGet ys s) xs ys).1.length ((bothH (fun s => vGet xs s + vGet ys s) xs ys).1.flatMap encE) ∧ Below w.heap.size w w' := by
  obtain ⟨r, hr⟩ : ∃ r, bothH (fun s => vGet xs s + vGet ys s) xs ys = r := ⟨_, rfl⟩
  have hb7 := both_add va vb xs ys w ha hb hfa hfb hla hlb
  rw [hr] at hb7 ⊢
  have HB7 := Lib.hid hb7
  clear hb7 hr ha hb
  go_enter Tryz.func14, Tryz.ntmps14
  go_wp2_with (go_at_call 38; refine HB7.out.mono ?_; rintro e w1 ⟨v, rfl, hown, hB1⟩)
  go_ret2
  exact ⟨_, rfl, hown, hB1⟩

set_option maxRecDepth 100000 in
set_option maxHeartbeats 4000000 in
theorem both_sub (va vb : Value) (xs ys : List Ent) (w : World) (ha : VAt w va xs) (hb : VAt w vb ys) (hfa : VFine xs) (hfb : VFine ys) (hla : xs.length ≤ 10000000) (hlb : ys.length ≤ 10000000) :
    Calls Tryz.prog 38 #[va, vb, .func (.func 39) #[] #[]] w fun e w' => ∃ v, e = .returned (.tuple #[v, .int .i64 (bothH (fun s => vGet xs s - vGet ys s) xs ys).2]) ∧ w'.ownsRow w.heap.size 45 3 v (bothH (fun s => vGet xs s - vGet ys s) xs ys).1.length ((bothH (fun s => vGet xs s - vGet ys s) xs ys).1.flatMap encE) ∧ Below w.heap.size w w' := by
  obtain ⟨h, hh⟩ : ∃ h : ByteArray → Int, (fun s => vGet xs s - vGet ys s) = h := ⟨_, rfl⟩
  have hhs : ∀ s, vGet xs s - vGet ys s = h s := fun s => by rw [← hh]
  rw [hh]
  have HH := Lib.hid hhs
  clear hh hhs
  obtain ⟨ra, hra⟩ : ∃ r, vRight xs = r := ⟨_, rfl⟩
  obtain ⟨rb, hrb⟩ : ∃ r, vRight ys = r := ⟨_, rfl⟩
  have hv : bothH h xs ys = if ra && rb then (if (xs ++ ys).any (fun x => !wOk (h x.name)) then ([], 3) else (vMade (hOf h (xs ++ ys)) ((namesE (xs ++ ys)).mergeSort leB), 0)) else ([], 1) := by rw [bothH, hra, hrb]
  have HA := Lib.hid ha
  have HB := Lib.hid hb
  have HFA := Lib.hid hfa
  have HFB := Lib.hid hfb
  have HRA := Lib.hid hra
  have HRB := Lib.hid hrb
  clear ha hb hfa hfb hra hrb
  have hmk := fun (u : World) => run_makeMap (P := Tryz.prog) 55 u
  cases hab : (ra && rb)
  · rw [hab] at hv
    have HV := Lib.hid (show bothH h xs ys = ([], 1) from hv)
    clear hv hmk
    cases ra
    · go_enter Tryz.func38, Tryz.ntmps38
      go_wp2_with (go_at_call 16; refine (vright_is va xs false _ HA.out HFA.out HRA.out).mono ?_; rintro e w1 ⟨rfl, hB1⟩)
      go_ret2
      exact ⟨_, by rw [HV.out]; rfl, by rw [HV.out]; exact own_nil' _ _ _ _, hB1⟩
    · cases rb
      · go_enter Tryz.func38, Tryz.ntmps38
        go_wp2_with (first
          | (go_at_call_of 16 va; refine (vright_is va xs true _ HA.out HFA.out HRA.out).mono ?_; rintro e w1 ⟨rfl, hB1⟩)
          | (go_at_call_of 16 vb; refine (vright_is vb ys false _ (HB.out.below hB1) HFB.out HRB.out).mono ?_; rintro e w2 ⟨rfl, hB2⟩))
        go_ret2
        exact ⟨_, by rw [HV.out]; rfl, by rw [HV.out]; exact own_nil' _ _ _ _, below_then' hB1 hB1.size hB2⟩
      · cases hab
  · rw [hab] at hv
    obtain ⟨rfl, rfl⟩ : ra = true ∧ rb = true := by simpa using hab
    clear hab
    have HV := Lib.hid (show bothH h xs ys = if (xs ++ ys).any (fun x => !wOk (h x.name)) then ([], 3) else (vMade (hOf h (xs ++ ys)) ((namesE (xs ++ ys)).mergeSort leB), 0) from hv)
    clear hv
    obtain ⟨zs, hzs⟩ : ∃ zs, xs ++ ys = zs := ⟨_, rfl⟩
    have hzl : zs.length ≤ 20000000 := by rw [← hzs, List.length_append]; omega
    have HFZ := Lib.hid (show VFine zs from hzs ▸ HFA.out.append HFB.out)
    have HZ := Lib.hid hzs
    rw [hzs] at HV
    clear hzs
    obtain ⟨A1, c1, rfl, _, _⟩ := HA.out.shape
    obtain ⟨A2, c2, rfl, _, _⟩ := HB.out.shape
    go_enter Tryz.func38, Tryz.ntmps38
    go_upto_region 4 with (first
      | (go_at_call_of 16 (Value.slice A1 xs.length c1); refine (vright_is _ xs true _ HA.out HFA.out HRA.out).mono ?_; rintro e w1 ⟨rfl, hB1⟩)
      | (go_at_call 16; refine (vright_is _ ys true _ (HB.out.below hB1) HFB.out HRB.out).mono ?_; rintro e w2 ⟨rfl, hB2⟩))
    have hB12 := below_then' hB1 hB1.size hB2
    obtain ⟨WM, hWM⟩ : ∃ WM, w2.alloc (.map #[] 0) = WM := ⟨_, rfl⟩
    have hvm0 : VM WM w2.heap.size 0 (fun _ => none) := by rw [← hWM]; exact MapIs.made w2
    have hB0 : Below w2.heap.size w2 WM := by rw [← hWM]; exact (Below.refl _ _).alloc (Nat.le_refl _) _
    have hszm : WM.heap.size = w2.heap.size + 1 := by rw [← hWM]; simp
    rw [hWM]
    clear hWM hmk
    have HVM0 := Lib.hid hvm0
    have hBM := below_then' hB12 (by have := hB12.size; omega) hB0
    have hbm : w.heap.size ≤ w2.heap.size := hB12.size
    obtain ⟨bM, hbM⟩ : ∃ bM, w2.heap.size = bM := ⟨_, rfl⟩
    rw [hbM] at hszm hbm HVM0 ⊢
    clear hvm0 hB1 hB2 hB12 hB0 hbM
    go_wp2_with (first
      | (go_at_call 62; obtain ⟨WA, hWA, HSA, HKA, hBA⟩ := box1 WM #[.slice A1 xs.length c1, .slice A2 ys.length c2] 27; rw [hWA]; clear hWA; obtain ⟨r0, r1, _, _⟩ := blk2 HKA.out; rw [hszm] at r0 r1; refine (concat_any _ 2 _ _ xs ys _ r0 r1 ((HA.out.below hBM).below hBA) ((HB.out.below hBM).below hBA) (by omega) (by omega)).mono ?_; rintro e w3 ⟨cv, rfl, hcv, hB3⟩; rw [HZ.out] at hcv; obtain ⟨A3, c3, rfl, _, _⟩ := (own_VAt hcv).shape))
    have hsA := HSA.out
    have HV3 := Lib.hid ((HVM0.out.below hBA).below hB3)
    have hBw3 := below_then' (below_then' hBM (by omega) hBA) (by omega) hB3
    obtain ⟨BA, hBAe⟩ : ∃ BA, WA.heap.size = BA := ⟨_, rfl⟩
    rw [hBAe] at hcv hsA
    clear hBAe hBA hB3 hBM HVM0 HKA r0 r1
    go_loopw [27] (fun i wr => ∃ k : Nat, k ≤ zs.length ∧ i = .int .i64 k ∧ Hid ((zs.take k).any (fun x => !wOk (h x.name)) = false) ∧ Hid (VM wr bM k (hOf h (zs.take k))) ∧ Hid (wr.ownsRow BA 45 3 (.slice A3 zs.length c3) zs.length (zs.flatMap encE)) ∧ Below w.heap.size w wr) (fun i _ => zs.length - (intOf i).toNat)
    case atStart => exact ⟨0, by omega, rfl, Lib.hid (by simp), HV3, Lib.hid hcv, hBw3⟩
    case round =>
      clear hcv hBw3 HV3
      obtain ⟨k, hk, rfl, hs, HVM, HCV, hB⟩ := hrel
      have hbs := hB.size
      have hvlt := HVM.out.lt
      by_cases hlt : k < zs.length
      · obtain ⟨x, hx⟩ : ∃ x, zs[k]? = some x := ⟨_, List.getElem?_eq_getElem hlt⟩
        obtain ⟨A', c', eq', _, hcell⟩ := (own_VAt HCV.out).each
        cases eq'
        obtain ⟨b, off, rfl, e0, e1, e2⟩ := hcell wr (Below.refl _ _) k x hx
        have hxn := (HFZ.out x (List.mem_of_getElem? hx)).1
        have hga := vGet_ok HFA.out x.name
        have hgb := vGet_ok HFB.out x.name
        obtain ⟨n, hn⟩ : ∃ n, h x.name = n := ⟨_, rfl⟩
        have hhx := HH.out x.name
        rw [hn] at hhx
        obtain ⟨ok, hok⟩ : ∃ ok, wOk n = ok := ⟨_, rfl⟩
        have htk : (zs.take (k + 1)).any (fun x => !wOk (h x.name)) = !ok := by
          rw [List.take_add_one, List.any_append, hs.out, hx]; simp [hn, hok]
        have hbad : ok = false → bothH h xs ys = ([], 3) := fun hb => by
          have : zs.any (fun x => !wOk (h x.name)) = true := List.any_eq_true.2 ⟨x, List.mem_of_getElem? hx, by rw [hn, hok, hb]; rfl⟩
          rw [HV.out, this]; rfl
        have hft : hOf h (zs.take (k + 1)) = upd (hOf h (zs.take k)) (nm x.name) (some n) := by
          unfold hOf
          rw [List.take_add_one, List.foldl_append, hx, ← hn]; rfl
        have hso := satW_ok n
        obtain ⟨sm, hsm⟩ : ∃ sm, satW n = sm := ⟨_, rfl⟩
        have HT := Lib.hid htk
        have HBD := Lib.hid hbad
        have HFT := Lib.hid hft
        have HHX := Lib.hid hhx
        have HSM := Lib.hid hsm
        have HOK := Lib.hid hok
        clear htk hbad hft hhx hsm hok hn hx hcell hso
        go_upto_region 7 with (fail)
        obtain ⟨W1, hW1, HS, HK, hB1⟩ := box1 wr #[.string x.name, .int .i64 (wHi x.n), .int .u64 (wLo x.n)] 45
        rw [hW1]
        clear hW1
        obtain ⟨c0, _, _⟩ := blk3 HK.out
        have hBw1 := below_then' hB hbs hB1
        have HA1 := Lib.hid (HA.out.below hBw1)
        have HB1 := Lib.hid (HB.out.below hBw1)
        have hbr : Below W1.heap.size W1 W1 := Below.refl _ _
        clear e0 e1 e2
        go_cut [11, 12] (fun v11 v12 wc => ∃ g, v11 = .pointer (some ⟨g, 0, none⟩) ∧ v12 = .bool ok ∧ Below W1.heap.size W1 wc ∧ wc.heap[g]? = some (.cells #[.int .i64 (wHi sm), .int .u64 (wLo sm)] 41 (0, 0)))
        case first =>
          go_region_held3 (fun w' => w'.cell? ⟨wr.heap.size, 0, none⟩ = some (.string x.name) ∧ Below W1.heap.size W1 w')
            (((try dsimp only); (try go_split_ands); (repeat' apply And.intro) <;> first | assumption | (exact keep_cell (bk_alloc hBw _) c0) | (exact bk_alloc hBw _) | (exact bk_put2 hBw (by omega)) | (exact keep_cell (bk_put2 hBw (by omega)) c0) | (apply keep_cell <;> assumption) | (apply bk_drew; assumption) | (apply bk_then <;> assumption) | (apply bk_alloc; assumption) | (apply bk_alloc; apply bk_drew; assumption) | (apply bk_drew; apply bk_alloc; assumption) | (go_keep; done)))
            (first
              | (go_at_call_of 18 (Value.slice A1 xs.length c1); go_split_ands; refine (get_is _ xs x.name (vGet xs x.name) _ (HA1.out.below (by assumption)) rfl).mono ?_; rintro e wa ⟨rfl, hBa⟩; have hBw := bk_then (w := W1) (by assumption) hBa; have hsz := hBw.size; (first | (have kb := blk_below' kb hBa) | (have kb := blk_new hBa) | (have kb := blk_newD hBa) | skip); (first | (have kz := blk2 kb; obtain ⟨z0, z1, f0, f1⟩ := kz) | skip))
              | (go_at_call_of 18 (Value.slice A2 ys.length c2); go_split_ands; refine (get_is _ ys x.name (vGet ys x.name) _ (HB1.out.below (by assumption)) rfl).mono ?_; rintro e wb ⟨rfl, hBb⟩; have hBw := bk_then (w := W1) (by assumption) hBb; have hsz := hBw.size; (first | (have kb := blk_below' kb hBb) | (have kb := blk_new hBb) | (have kb := blk_newD hBb) | skip); (first | (have kz := blk2 kb; obtain ⟨z0, z1, f0, f1⟩ := kz) | skip))
              | (go_at_call 39; go_split_ands; refine (sub1_is (vGet xs x.name) (vGet ys x.name) sm _ hga hgb (by rw [HHX.out]; exact HSM.out)).mono ?_; rintro e wc ⟨rfl, hBc⟩; have hBw := bk_then (w := W1) (by assumption) hBc; have hsz := hBw.size; (first | (have kb := blk_below' kb hBc) | (have kb := blk_new hBc) | (have kb := blk_newD hBc) | skip); (first | (have kz := blk2 kb; obtain ⟨z0, z1, f0, f1⟩ := kz) | skip); rw [HHX.out, HOK.out]))
          all_goals
            go_wp2_with fail
            go_meet
            case rel => exact (by first | exact ⟨_, rfl, rfl, bk_alloc hBw _, heap_at _ _ _ rfl⟩ | exact ⟨_, rfl, rfl, bk_put2 hBw (by omega), blk_put2 kb _ _⟩)
        case rest =>
          obtain ⟨g, rfl, rfl, hBc, hkg⟩ := hcut
          have d0 := keep_cell hBc c0
          obtain ⟨z0, z1, _, _⟩ := blk2 hkg
          have hBwc := below_then' hBw1 (by have := HS.out; omega) hBc
          have HCV2 := Lib.hid (own_below' (own_below' HCV.out hB1) hBc)
          have HVM2 := Lib.hid ((HVM.out.below hB1).below hBc)
          have HLT := Lib.hid (show bM < BA by omega)
          have HBWC := Lib.hid hBwc
          clear c0 hkg hvlt hsA hszm hbr hBw1 hBwc
          cases ok
          · have HBD2 := Lib.hid (HBD.out rfl)
            clear HBD
            go_wp2_with fail
            go_ret2
            exact ⟨_, by rw [HBD2.out]; rfl, by rw [HBD2.out]; exact own_nil' _ _ _ _, HBWC.out⟩
          · have hsn : sm = n := by rw [← HSM.out, satW_of HOK.out]
            obtain ⟨w4, hrun, hvm, htn⟩ := VM.store HVM2.out (by omega) x.name hxn sm
            have HVM4 := Lib.hid hvm
            have HSN := Lib.hid hsn
            clear hvm hsn
            go_wp2_with fail
            refine ⟨⟨k + 1, by omega, by go_num, Lib.hid ?_, Lib.hid ?_, Lib.hid (row_turned HCV2.out HLT.out htn), turned_below HBWC.out hbm htn⟩, by simp [intOf]; omega⟩
            · rw [HT.out]; rfl
            · rw [HFT.out, ← HSN.out]; exact HVM4.out
      · have htk : zs.take k = zs := List.take_of_length_le (by omega)
        have hgood : zs.any (fun x => !wOk (h x.name)) = false := by have := hs.out; rwa [htk] at this
        have HV2 := Lib.hid (show bothH h xs ys = (vMade (hOf h zs) ((namesE zs).mergeSort leB), 0) by rw [HV.out, hgood]; rfl)
        have hvm := HVM.out
        rw [htk] at hvm
        have HVL := Lib.hid hvm
        have hnl : (namesE zs).length ≤ 100000000 := by have := dd_length (zs.map fun x => nm x.name); simp at this; unfold namesE; omega
        have hns : ∀ s ∈ namesE zs, s.length ≤ 9223372036854775807 := fun s hs => by
          obtain ⟨x, hx, rfl⟩ := List.mem_map.1 ((dd_mem s _).1 hs)
          exact (HFZ.out x hx).1
        have HNS := Lib.hid hns
        clear htk hgood hvm hns HVM
        go_wp2_with (go_at_call 27; refine (made_any _ bM k (hOf h zs) HVL.out (by omega) (namesE_nodup zs) (namesE_mem h zs) hnl HNS.out).mono ?_; rintro e w5 ⟨v, rfl, hown, hB5⟩)
        go_ret2
        exact ⟨_, by rw [HV2.out]; rfl, by rw [HV2.out]; exact own_weaken' hown (by omega), below_then' hB hbs hB5⟩

set_option maxRecDepth 100000 in
theorem vsub_any (va vb : Value) (xs ys : List Ent) (w : World) (ha : VAt w va xs) (hb : VAt w vb ys) (hfa : VFine xs) (hfb : VFine ys) (hla : xs.length ≤ 10000000) (hlb : ys.length ≤ 10000000) :
    Calls Tryz.prog 15 #[va, vb] w fun e w' => ∃ v, e = .returned (.tuple #[v, .int .i64 (bothH (fun s => vGet xs s - vGet ys s) xs ys).2]) ∧ w'.ownsRow w.heap.size 45 3 v (bothH (fun s => vGet xs s - vGet ys s) xs ys).1.length ((bothH (fun s => vGet xs s - vGet ys s) xs ys).1.flatMap encE) ∧ Below w.heap.size w w' := by
  obtain ⟨r, hr⟩ : ∃ r, bothH (fun s => vGet xs s - vGet ys s) xs ys = r := ⟨_, rfl⟩
  have hb7 := both_sub va vb xs ys w ha hb hfa hfb hla hlb
  rw [hr] at hb7 ⊢
  have HB7 := Lib.hid hb7
  clear hb7 hr ha hb
  go_enter Tryz.func15, Tryz.ntmps15
  go_wp2_with (go_at_call 38; refine HB7.out.mono ?_; rintro e w1 ⟨v, rfl, hown, hB1⟩)
  go_ret2
  exact ⟨_, rfl, hown, hB1⟩
end Go.Proofs.YtgjlgpaoilaikaaGreatDoor
