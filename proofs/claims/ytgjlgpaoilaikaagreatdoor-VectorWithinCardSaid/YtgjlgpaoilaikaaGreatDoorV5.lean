/-
  Layer 4: the program's Of: the vector of resources.
-/
import Derived.Test.YtgjlgpaoilaikaaGreatDoorV4
namespace Go.Proofs.YtgjlgpaoilaikaaGreatDoor
open Go.RowKit Go.Maps Go.Sort

theorem mkey_inj {r s : List UInt8} (h : Lit.string r = Lit.string s) : r = s := by cases h; rfl
theorem VM.store {w : World} {b n : Nat} {f : List UInt8 → Option Int} (h : VM w b n f) (hn : n < 9223372036854775807) (s : ByteArray) (hs : s.size ≤ 9223372036854775807) (g : Int) :
    ∃ w', (Instr.mapUpdate 55 (.map (some b)) (.string s) (.agg #[.int .i64 (wHi g), .int .u64 (wLo g)])).run Tryz.prog w = .ok () w' ∧ VM w' b (n + 1) (upd f (nm s) (some g)) ∧ w.mapTurned w' b :=
  MapIs.store h keyed9 Tryz.underlying55 hn (Go.WideMaps.keyOf_string_mk Tryz.underlying9 hs) (fun _ e => mkey_inj e) g
theorem wof_is (n : Int) (w : World) (h0 : -9223372036854775808 ≤ n) (h1 : n ≤ 9223372036854775807) :
    Calls Tryz.prog 26 #[.int .i64 n] w fun e w' => e = .returned (.agg #[.int .i64 (wHi n), .int .u64 (wLo n)]) ∧ Below w.heap.size w w' := wof_any n w h0 h1
theorem wadd_is (a b s : Int) (w : World) (ha : wOk a = true) (hb : wOk b = true) (hs : satW (a + b) = s) :
    Calls Tryz.prog 25 #[.agg #[.int .i64 (wHi a), .int .u64 (wLo a)], .agg #[.int .i64 (wHi b), .int .u64 (wLo b)]] w fun e w' => e = .returned (.tuple #[.agg #[.int .i64 (wHi s), .int .u64 (wLo s)], .bool (wOk (a + b))]) ∧ Below w.heap.size w w' := by subst hs; exact wadd_any a b w ha hb

/-- what the map says behind a list of resources -/
def fStep (f : List UInt8 → Option Int) (x : Res) : List UInt8 → Option Int := upd f (nm x.name) (some (satW ((f (nm x.name)).getD 0 + x.n)))
def fOf (l : List Res) : List UInt8 → Option Int := l.foldl fStep (fun _ => none)
def fGood (f : List UInt8 → Option Int) : Prop := ∀ s, wOk ((f s).getD 0) = true
theorem fStep_good {f : List UInt8 → Option Int} (h : fGood f) (x : Res) : fGood (fStep f x) := by
  intro s
  unfold fStep upd
  split
  · exact satW_ok _
  · exact h s
theorem fOf_dom : ∀ (l : List Res) (f : List UInt8 → Option Int) (s : List UInt8), ((l.foldl fStep f) s).isSome = ((f s).isSome || (l.map fun x => nm x.name).contains s)
  | [], f, s => by simp
  | x :: l, f, s => by
    rw [List.foldl_cons, fOf_dom l, List.map_cons, List.contains_cons]
    unfold fStep upd
    by_cases hs : s = nm x.name
    · subst hs; simp
    · have : (s == nm x.name) = false := by simpa using hs
      simp [hs, this]
def dd : List (List UInt8) → List (List UInt8)
  | [] => []
  | x :: xs => if xs.contains x then dd xs else x :: dd xs
theorem dd_mem (s : List UInt8) : ∀ l : List (List UInt8), s ∈ dd l ↔ s ∈ l
  | [] => by simp [dd]
  | x :: xs => by
    unfold dd
    split
    · rename_i h
      rw [dd_mem s xs, List.mem_cons]
      refine ⟨Or.inr, fun h' => h'.elim (fun e => ?_) id⟩
      subst e
      simpa using h
    · rw [List.mem_cons, List.mem_cons, dd_mem s xs]
theorem dd_nodup : ∀ l : List (List UInt8), (dd l).Nodup
  | [] => List.nodup_nil
  | x :: xs => by
    unfold dd
    split
    · exact dd_nodup xs
    · rename_i h
      exact List.nodup_cons.2 ⟨fun h' => h (by simpa using (dd_mem x xs).1 h'), dd_nodup xs⟩
theorem dd_length : ∀ l : List (List UInt8), (dd l).length ≤ l.length
  | [] => Nat.le_refl _
  | x :: xs => by
    have := dd_length xs
    unfold dd
    split <;> simp <;> omega
def namesOf (l : List Res) : List (List UInt8) := dd (l.map fun x => nm x.name)
theorem namesOf_nodup (l : List Res) : (namesOf l).Nodup := dd_nodup _
theorem namesOf_mem (l : List Res) (s : List UInt8) : s ∈ namesOf l ↔ (fOf l s).isSome = true := by
  unfold namesOf fOf
  rw [fOf_dom]
  rw [dd_mem]
  simp
/-- the program's answer -/
def vOfP (l : List Res) : List Ent × Int := if l.any badR then ([], 1) else if 16 < l.length then ([], 3) else (vMade (fOf l) ((namesOf l).mergeSort leB), 0)

set_option maxRecDepth 100000 in
set_option maxHeartbeats 2000000 in
theorem vof_any (va : Value) (l : List Res) (w : World) (ha : RAt w va l) (hf : RFine l) (hl : l.length ≤ 100000000) :
    Calls Tryz.prog 7 #[va] w fun e w' => ∃ v, e = .returned (.tuple #[v, .int .i64 (vOfP l).2]) ∧ w'.ownsRow w.heap.size 45 3 v (vOfP l).1.length ((vOfP l).1.flatMap encE) ∧ Below w.heap.size w w' := by
  obtain ⟨A, c, rfl, hlm, hcell⟩ := ha.each
  have HC := Lib.hid hcell
  have HF := Lib.hid hf
  clear hcell hf ha
  have hmk := fun (u : World) => run_makeMap (P := Tryz.prog) 55 u
  go_enter Tryz.func7, Tryz.ntmps7
  go_wp2_with fail
  clear hmk
  obtain ⟨WM, hWM⟩ : ∃ WM, w.alloc (.map #[] 0) = WM := ⟨_, rfl⟩
  have hvm0 : VM WM w.heap.size 0 (fun _ => none) := by rw [← hWM]; exact MapIs.made w
  have hB0 : Below w.heap.size w WM := by rw [← hWM]; exact (Below.refl _ _).alloc (Nat.le_refl _) _
  rw [hWM]
  clear hWM
  go_loopw [10] (fun i wr => ∃ k : Nat, k ≤ l.length ∧ i = .int .i64 k ∧ Hid ((l.take k).any badR = false) ∧ Hid (VM wr w.heap.size k (fOf (l.take k))) ∧ Hid (fGood (fOf (l.take k))) ∧ Below w.heap.size w wr) (fun i _ => l.length - (intOf i).toNat)
  case atStart => exact ⟨0, by omega, rfl, Lib.hid (by simp), Lib.hid hvm0, Lib.hid (fun _ => (by decide : wOk 0 = true)), hB0⟩
  case round =>
    obtain ⟨k, hk, rfl, hs, HVM, HG, hB⟩ := hrel
    have hbs := hB.size
    have hvlt := HVM.out.lt
    by_cases hlt : k < l.length
    · obtain ⟨x, hx⟩ : ∃ x, l[k]? = some x := ⟨_, List.getElem?_eq_getElem hlt⟩
      obtain ⟨b, off, rfl, c0, c1⟩ := HC.out wr hB k x hx
      have hxf := HF.out x (List.mem_of_getElem? hx)
      obtain ⟨lb, hlb⟩ : ∃ lb, lblB x.name = lb := ⟨_, rfl⟩
      have htk : (l.take (k + 1)).any badR = (badR x) := by
        rw [List.take_add_one, List.any_append, hs.out, hx]; simp
      have hbad : badR x = true → vOfP l = ([], 1) := fun hb => by
        have : l.any badR = true := List.any_eq_true.2 ⟨x, List.mem_of_getElem? hx, hb⟩
        simp [vOfP, this]
      have hft : fOf (l.take (k + 1)) = fStep (fOf (l.take k)) x := by
        unfold fOf
        rw [List.take_add_one, List.foldl_append, hx]; rfl
      have HT := Lib.hid htk
      have HBD := Lib.hid hbad
      have HLB := Lib.hid hlb
      have HFT := Lib.hid hft
      have hxn := hxf.1
      have hx0 := hxf.2.1
      have hx1 := hxf.2.2
      clear htk hbad hlb hx hxf hft
      go_upto_region 5 with (fail)
      obtain ⟨W1, hW1, HS, HK, hB1⟩ := box1 wr #[.string x.name, .int .i64 x.n] 25
      rw [hW1]
      clear hW1
      obtain ⟨e0, e1, _, _⟩ := blk2 HK.out
      have hBw1 := below_then' hB hbs hB1
      have hsz := HS.out
      clear c0 c1
      have HV1 := Lib.hid (HVM.out.below hB1)
      clear HVM
      cases lb
      · go_wp2_with (go_at_call 24; refine (right_is x.name _ _ hxn HLB.out).mono ?_; rintro e w2 ⟨rfl, hB2⟩)
        go_ret2
        have hv := HBD.out (by simp [badR, HLB.out])
        exact ⟨_, by rw [hv]; rfl, by rw [hv]; exact own_nil' _ _ _ _, below_then' hBw1 (by omega) hB2⟩
      · by_cases hneg : x.n < 0
        · go_wp2_with (go_at_call 24; refine (right_is x.name _ _ hxn HLB.out).mono ?_; rintro e w2 ⟨rfl, hB2⟩; have d1 := keep_cell hB2 e1)
          go_ret2
          have hv := HBD.out (by simp [badR, hneg])
          exact ⟨_, by rw [hv]; rfl, by rw [hv]; exact own_nil' _ _ _ _, below_then' hBw1 (by omega) hB2⟩
        · go_wp2_with (go_at_call 24; refine (right_is x.name _ _ hxn HLB.out).mono ?_; rintro e w2 ⟨rfl, hB2⟩; have d0 := keep_cell hB2 e0; have d1 := keep_cell hB2 e1)
          have hBw2 := below_then' hBw1 (by omega) hB2
          have hsz2 := hB2.size
          have hV2 := HV1.out.below hB2
          obtain ⟨g, hg⟩ : ∃ g, ((fOf (l.take k)) (nm x.name)).getD 0 = g := ⟨_, rfl⟩
          have hgo : wOk g = true := by rw [← hg]; exact HG.out _
          have hio := i64_ok hx0 hx1
          obtain ⟨sm, hsm⟩ : ∃ sm, satW (g + x.n) = sm := ⟨_, rfl⟩
          have hl0 := VM.look (w := w2.drew) hV2 x.name hxn hg
          have HV2 := Lib.hid hV2
          have HGG := Lib.hid hg
          have HSM := Lib.hid hsm
          clear hV2 hg hsm e0 e1
          go_region_held3 (fun w' => w'.cell? ⟨wr.heap.size, 0, none⟩ = some (.string x.name) ∧ w'.cell? ⟨wr.heap.size, 1, none⟩ = some (.int .i64 x.n))
            (((try dsimp only); (try go_split_ands); (repeat' apply And.intro) <;> first | assumption | (exact turned_cell htn (by dsimp only; omega) (keep_cell hBb (keep_cell hBa d0))) | (exact turned_cell htn (by dsimp only; omega) (keep_cell hBb (keep_cell hBa d1))) | (apply keep_cell <;> assumption) | (apply keep_cellD <;> assumption) | (go_keep; done)))
            (first
              | (go_at_call 26; refine (wof_is x.n _ hx0 hx1).mono ?_; rintro e wa ⟨rfl, hBa⟩; have hBa := below_undrew hBa; have hl1 := VM.look (HV2.out.below hBa) x.name hxn HGG.out)
              | (go_at_call 25; refine (wadd_is g x.n sm _ hgo hio HSM.out).mono ?_; rintro e wb ⟨rfl, hBb⟩; obtain ⟨w3, hrun, hvm3, htn⟩ := VM.store ((HV2.out.below hBa).below hBb) (by omega) x.name hxn sm; have HV3 := Lib.hid hvm3; clear hvm3))
          all_goals
            go_wp2_with fail
            have hBw3 := turned_below (below_then' (below_then' hBw2 (by omega) hBa) (by have := hBa.size; omega) hBb) (Nat.le_refl _) htn
            refine ⟨⟨k + 1, by omega, by go_num, Lib.hid ?_, Lib.hid ?_, Lib.hid ?_, hBw3⟩, by simp [intOf]; omega⟩
            · rw [HT.out]; simp [badR, HLB.out]; omega
            · rw [HFT.out, fStep, HGG.out, HSM.out]; exact HV3.out
            · rw [HFT.out]; exact fStep_good HG.out x
    · have htk : l.take k = l := List.take_of_length_le (by omega)
      have hgood : l.any badR = false := by have := hs.out; rwa [htk] at this
      by_cases h16 : 16 < l.length
      · have HV := Lib.hid (show vOfP l = ([], 3) by simp [vOfP, hgood, h16])
        clear htk hgood
        go_wp2_with fail
        go_ret2
        exact ⟨_, by rw [HV.out]; rfl, by rw [HV.out]; exact own_nil' _ _ _ _, hB⟩
      · have HV := Lib.hid (show vOfP l = (vMade (fOf l) ((namesOf l).mergeSort leB), 0) by simp [vOfP, hgood, h16])
        have hvm := HVM.out
        rw [htk] at hvm
        have HVL := Lib.hid hvm
        clear htk hgood hvm HVM HG
        have hnl : (namesOf l).length ≤ 100000000 := by have := dd_length (l.map fun x => nm x.name); simp at this; unfold namesOf; omega
        have hns : ∀ s ∈ namesOf l, s.length ≤ 9223372036854775807 := fun s hs => by
          obtain ⟨x, hx, rfl⟩ := List.mem_map.1 ((dd_mem s _).1 hs)
          exact (HF.out x hx).1
        have HNS := Lib.hid hns
        clear hns
        go_wp2_with (go_at_call 27; refine (made_any _ w.heap.size k (fOf l) HVL.out (by omega) (namesOf_nodup l) (namesOf_mem l) hnl HNS.out).mono ?_; rintro e w3 ⟨v, rfl, hown, hB3⟩)
        go_ret2
        exact ⟨_, by rw [HV.out]; rfl, by rw [HV.out]; exact own_weaken' hown (by omega), below_then' hB hbs hB3⟩
end Go.Proofs.YtgjlgpaoilaikaaGreatDoor
