/-
  Layer 4: the reference's Of: the vector of resources.
-/
import Derived.Test.YtgjlgpaoilaikaaGreatDoorV1
namespace Go.Proofs.YtgjlgpaoilaikaaGreatDoor
open Go.RowKit

/-- a resource: a name, how much -/
structure Res where
  name : ByteArray
  n : Int
def encR (x : Res) : List Value := [.string x.name, .int .i64 x.n]
def KR : World → Res → List Value → Prop := fun _ x cs => cs = encR x
def RAt (w : World) (v : Value) (xs : List Res) : Prop := SlAt KR 2 w v xs
def ResOk (x : Res) : Prop := x.name.size ≤ 9223372036854775807 ∧ -9223372036854775808 ≤ x.n ∧ x.n ≤ 9223372036854775807
def RFine (xs : List Res) : Prop := ∀ x ∈ xs, ResOk x
theorem RAt.below {w w1 : World} {v : Value} {xs : List Res} (h : RAt w v xs) (hb : Below w.heap.size w w1) : RAt w1 v xs := SlAt.below h hb fun _ _ hk => hk
/-- whatever its length: the cells of an element that is there, in whatever world above the one at hand -/
theorem RAt.each {w : World} {v : Value} {xs : List Res} (h : RAt w v xs) : ∃ A c, v = .slice A xs.length c ∧ xs.length ≤ 9223372036854775807 ∧ ∀ W, Below w.heap.size w W → ∀ j x, xs[j]? = some x → ∃ b off, A = some ⟨b, off, none⟩ ∧ W.cell? ⟨b, off + j * 2, none⟩ = some (.string x.name) ∧ W.cell? ⟨b, off + j * 2 + 1, none⟩ = some (.int .i64 x.n) := by
  obtain ⟨A, c, rfl, h1, h2, h3⟩ := h
  refine ⟨A, c, rfl, by omega, fun W hW j x hj => ?_⟩
  obtain ⟨b, off, rfl, hlt, hc⟩ := h3 (by have := (List.getElem?_eq_some_iff.1 hj).1; omega)
  obtain ⟨cs, _, rfl, hcs⟩ := hc j x hj
  exact ⟨b, off, rfl, (hW.cell (p := ⟨b, _, none⟩) hlt).trans (hcs 0 _ rfl), (hW.cell (p := ⟨b, _, none⟩) hlt).trans (hcs 1 _ rfl)⟩
theorem own_RAt {w : World} {base : Nat} {e : TypeId} {v : Value} {xs : List Res} (h : w.ownsRow base e 2 v xs.length (xs.flatMap encR)) : RAt w v xs := own_slAt h (fun _ => rfl)
/-- the same of a vector -/
theorem VAt.each {w : World} {v : Value} {xs : List Ent} (h : VAt w v xs) : ∃ A c, v = .slice A xs.length c ∧ xs.length ≤ 9223372036854775807 ∧ ∀ W, Below w.heap.size w W → ∀ j x, xs[j]? = some x → ∃ b off, A = some ⟨b, off, none⟩ ∧ W.cell? ⟨b, off + j * 3, none⟩ = some (.string x.name) ∧ W.cell? ⟨b, off + j * 3 + 1, none⟩ = some (.int .i64 (wHi x.n)) ∧ W.cell? ⟨b, off + j * 3 + 2, none⟩ = some (.int .u64 (wLo x.n)) := by
  obtain ⟨A, c, rfl, h1, h2, h3⟩ := h
  refine ⟨A, c, rfl, by omega, fun W hW j x hj => ?_⟩
  obtain ⟨b, off, rfl, hlt, hc⟩ := h3 (by have := (List.getElem?_eq_some_iff.1 hj).1; omega)
  obtain ⟨cs, _, rfl, hcs⟩ := hc j x hj
  exact ⟨b, off, rfl, (hW.cell (p := ⟨b, _, none⟩) hlt).trans (hcs 0 _ rfl), (hW.cell (p := ⟨b, _, none⟩) hlt).trans (hcs 1 _ rfl), (hW.cell (p := ⟨b, _, none⟩) hlt).trans (hcs 2 _ rfl)⟩

def satW (n : Int) : Int := if wOk n then n else 0
def badR (x : Res) : Bool := !lblB x.name || decide (x.n < 0)
def vStep (v : List Ent) (x : Res) : List Ent := vPut v x.name (satW (vGet v x.name + x.n))
def vOf (l : List Res) : List Ent × Int := if l.any badR then ([], 1) else if 16 < l.length then ([], 3) else (l.foldl vStep [], 0)

theorem satW_ok (n : Int) : wOk (satW n) = true := by
  unfold satW
  split
  · assumption
  · decide
theorem i64_ok {n : Int} (h0 : -9223372036854775808 ≤ n) (h1 : n ≤ 9223372036854775807) : wOk n = true := by rw [wOk_iff]; omega
theorem putGo_fine (name : ByteArray) (n : Int) (hn : name.size ≤ 9223372036854775807) (ho : wOk n = true) : ∀ (d : Bool) (xs : List Ent), VFine xs → VFine (putGo name n d xs)
  | d, [], _ => by
    cases d <;> simp [putGo, VFine, EntOk, hn, ho]
  | d, x :: xs, h => by
    have ih := putGo_fine name n hn ho (d || slt name x.name) xs (fun y hy => h y (List.mem_cons_of_mem _ hy))
    have hx := h x (List.mem_cons_self ..)
    intro y hy
    simp only [putGo, List.mem_append] at hy
    rcases hy with (hy | hy) | hy
    · split at hy
      · simp at hy; subst hy; exact ⟨hn, ho⟩
      · simp at hy
    · split at hy
      · simp at hy
      · simp at hy; subst hy; exact hx
    · exact ih y hy
theorem putGo_length (name : ByteArray) (n : Int) : ∀ (d : Bool) (xs : List Ent), (putGo name n d xs).length ≤ xs.length + (if d then 0 else 1)
  | d, [] => by cases d <;> simp [putGo]
  | d, x :: xs => by
    have ih := putGo_length name n (d || slt name x.name) xs
    simp only [putGo, List.length_append, List.length_cons]
    cases d <;> cases hs : slt name x.name <;> rw [hs] at ih <;> simp at ih ⊢ <;> split <;> simp <;> omega
theorem vPut_fine {xs : List Ent} {name : ByteArray} {n : Int} (h : VFine xs) (hn : name.size ≤ 9223372036854775807) (ho : wOk n = true) : VFine (vPut xs name n) := putGo_fine name n hn ho _ xs h
theorem vPut_length (xs : List Ent) (name : ByteArray) (n : Int) : (vPut xs name n).length ≤ xs.length + 1 := by
  have := putGo_length name n (decide (n = 0)) xs
  unfold vPut
  split at this <;> omega
theorem vGet_ok {xs : List Ent} (h : VFine xs) (name : ByteArray) : wOk (vGet xs name) = true := by
  unfold vGet
  split
  · rename_i x hx
    exact (h x (List.mem_of_find?_eq_some hx)).2
  · decide

theorem radd_at (a b : Int) (w : World) (ha : wOk a = true) (hb : wOk b = true) :
    Calls Tryz.prog 17 #[.agg #[.int .i64 (wHi a), .int .u64 (wLo a)], .agg #[.int .i64 (wHi b), .int .u64 (wLo b)]] w fun e w' => e = .returned (.tuple #[.agg #[.int .i64 (wHi (satW (a + b))), .int .u64 (wLo (satW (a + b)))], .bool (wOk (a + b))]) ∧ Below w.heap.size w w' := radd_any a b w ha hb
theorem rget_at (va : Value) (xs : List Ent) (name : ByteArray) (w : World) (ha : VAt w va xs) :
    Calls Tryz.prog 29 #[va, .string name] w fun e w' => e = .returned (.agg #[.int .i64 (wHi (vGet xs name)), .int .u64 (wLo (vGet xs name))]) ∧ Below w.heap.size w w' := rget_any va xs name w ha
theorem rof_at (n : Int) (w : World) (h0 : -9223372036854775808 ≤ n) (h1 : n ≤ 9223372036854775807) :
    Calls Tryz.prog 30 #[.int .i64 n] w fun e w' => e = .returned (.agg #[.int .i64 (wHi n), .int .u64 (wLo n)]) ∧ Below w.heap.size w w' := rof_any n w h0 h1

theorem put_at (va : Value) (xs : List Ent) (name : ByteArray) (n : Int) (w : World) (ha : VAt w va xs) (hf : VFine xs) (hl : xs.length ≤ 100000000) (hname : name.size ≤ 9223372036854775807) :
    Calls Tryz.prog 31 #[va, .string name, .agg #[.int .i64 (wHi n), .int .u64 (wLo n)]] w fun e w' => ∃ v, e = .returned v ∧ w'.ownsRow w.heap.size 45 3 v (vPut xs name n).length ((vPut xs name n).flatMap encE) ∧ Below w.heap.size w w' := put_any va xs name n w ha hf hl hname
theorem blk_new {V W : World} {cs : Array Value} {t : TypeId} (h : Below (V.alloc (.cells cs t)).heap.size (V.alloc (.cells cs t)) W) : W.heap[V.heap.size]? = some (.cells cs t (0, 0)) := blk_below' (heap_at _ _ _ rfl) h
theorem bk_put2 {w W : World} {g : Nat} {x y : Value} (h : Below w.heap.size w W) (hp : w.heap.size ≤ g) : Below w.heap.size w ((W.setCell ⟨g, 0, none⟩ x).setCell ⟨g, 1, none⟩ y) := (h.setCell hp x).setCell hp y
theorem blk_newD {V W : World} {cs : Array Value} {t : TypeId} (h : Below (V.alloc (.cells cs t)).drew.heap.size (V.alloc (.cells cs t)).drew W) : W.heap[V.heap.size]? = some (.cells cs t (0, 0)) := blk_below' (heap_at _ _ _ rfl) (below_undrew h)
theorem bk_drew {w W : World} (h : Below w.heap.size w W) : Below w.heap.size w W.drew := below_drewN' h 1
theorem bk_then {w W W2 : World} (h : Below w.heap.size w W) (h2 : Below W.heap.size W W2) : Below w.heap.size w W2 := below_then' h h.size h2
theorem bk_alloc {w W : World} (h : Below w.heap.size w W) (b : Obj) : Below w.heap.size w (W.alloc b) := h.alloc h.size b
theorem bk_set {w W : World} (h : Below w.heap.size w W) (p : Addr) (u : Value) (hp : w.heap.size ≤ p.block) : Below w.heap.size w (W.setCell p u) := h.setCell hp u

set_option maxRecDepth 100000 in
set_option maxHeartbeats 2000000 in
theorem rvof_any (va : Value) (l : List Res) (w : World) (ha : RAt w va l) (hf : RFine l) :
    Calls Tryz.prog 8 #[va] w fun e w' => ∃ v, e = .returned (.tuple #[v, .int .i64 (vOf l).2]) ∧ w'.ownsRow w.heap.size 45 3 v (vOf l).1.length ((vOf l).1.flatMap encE) ∧ Below w.heap.size w w' := by
  obtain ⟨A, c, rfl, hlm, hcell⟩ := ha.each
  have HC := Lib.hid hcell
  have HF := Lib.hid hf
  clear hcell hf ha
  go_enter Tryz.func8, Tryz.ntmps8
  go_wp2_with fail
  go_loop [5] (fun i => ∃ k : Nat, k ≤ l.length ∧ i = .int .i64 k ∧ Hid ((l.take k).any badR = false)) (fun i => l.length - (intOf i).toNat)
  case atStart => exact ⟨0, by omega, rfl, Lib.hid (by simp)⟩
  case round =>
    obtain ⟨k, hk, rfl, hs⟩ := hrel
    by_cases hlt : k < l.length
    · obtain ⟨x, hx⟩ : ∃ x, l[k]? = some x := ⟨_, List.getElem?_eq_getElem hlt⟩
      obtain ⟨b, off, rfl, c0, c1⟩ := HC.out w (Below.refl _ _) k x hx
      have hxf := HF.out x (List.mem_of_getElem? hx)
      obtain ⟨lb, hlb⟩ : ∃ lb, lblB x.name = lb := ⟨_, rfl⟩
      have htk : (l.take (k + 1)).any badR = (badR x) := by
        rw [List.take_add_one, List.any_append, hs.out, hx]; simp
      have hbad : badR x = true → vOf l = ([], 1) := fun hb => by
        have : l.any badR = true := List.any_eq_true.2 ⟨x, List.mem_of_getElem? hx, hb⟩
        simp [vOf, this]
      have HT := Lib.hid htk
      have HBD := Lib.hid hbad
      have HLB := Lib.hid hlb
      have hxn := hxf.1
      clear htk hbad hlb hx hxf
      cases lb
      · go_wp2_with (go_at_call 28; refine (rright_any _ _ hxn).mono ?_; rintro e w' ⟨rfl, rfl⟩; rw [HLB.out])
        go_ret2
        have hv := HBD.out (by simp [badR, HLB.out])
        exact ⟨_, by rw [hv]; rfl, by rw [hv]; exact own_nil' _ _ _ _, Below.refl _ _⟩
      · by_cases hneg : x.n < 0
        · go_wp2_with (go_at_call 28; refine (rright_any _ _ hxn).mono ?_; rintro e w' ⟨rfl, rfl⟩; rw [HLB.out])
          go_ret2
          have hv := HBD.out (by simp [badR, hneg])
          exact ⟨_, by rw [hv]; rfl, by rw [hv]; exact own_nil' _ _ _ _, Below.refl _ _⟩
        · go_wp2_with (go_at_call 28; refine (rright_any _ _ hxn).mono ?_; rintro e w' ⟨rfl, rfl⟩; rw [HLB.out])
          refine ⟨⟨k + 1, by omega, by go_num, Lib.hid ?_⟩, by simp [intOf]; omega⟩
          rw [HT.out]; simp [badR, HLB.out]; omega
    · have hgood : l.any badR = false := by
        have := hs.out
        rwa [List.take_of_length_le (by omega)] at this
      have HG := Lib.hid hgood
      clear hgood
      by_cases h16 : 16 < l.length
      · have hv : vOf l = ([], 3) := by simp [vOf, HG.out, h16]
        have HV := Lib.hid hv
        clear hv
        go_wp2_with fail
        go_ret2
        exact ⟨_, by rw [HV.out]; rfl, by rw [HV.out]; exact own_nil' _ _ _ _, Below.refl _ _⟩
      · have hv : vOf l = (l.foldl vStep [], 0) := by simp [vOf, HG.out, h16]
        have HV := Lib.hid hv
        clear hv
        go_wp2_with fail
        go_loopw [4, 7] (fun v i wr => ∃ (k : Nat) (out : List Ent), k ≤ l.length ∧ i = .int .i64 k ∧ out.length ≤ k ∧ Hid ((l.take k).foldl vStep [] = out) ∧ Hid (VFine out) ∧ wr.ownsRow w.heap.size 45 3 v out.length (out.flatMap encE) ∧ Below w.heap.size w wr) (fun _ i _ => l.length - (intOf i).toNat)
        case atStart => exact ⟨0, [], by omega, rfl, by simp, Lib.hid (by simp), Lib.hid (by simp [VFine]), own_nil' _ _ _ _, Below.refl _ _⟩
        case round =>
          obtain ⟨k2, out, hk2, rfl, hol, hs2, hfo, hown, hB⟩ := hrel
          have hbs := hB.size
          by_cases hlt2 : k2 < l.length
          · obtain ⟨x, hx⟩ : ∃ x, l[k2]? = some x := ⟨_, List.getElem?_eq_getElem hlt2⟩
            obtain ⟨b, off, rfl, c0, c1⟩ := HC.out wr hB k2 x hx
            have hxf := HF.out x (List.mem_of_getElem? hx)
            have hst : (l.take (k2 + 1)).foldl vStep [] = vStep out x := by
              rw [List.take_add_one, List.foldl_append, hs2.out, hx]; rfl
            have hxn := hxf.1
            have hx0 := hxf.2.1
            have hx1 := hxf.2.2
            have hva : VAt wr _ out := own_VAt hown
            have hgo := vGet_ok hfo.out x.name
            have hio := i64_ok hx0 hx1
            have hso := satW_ok (vGet out x.name + x.n)
            obtain ⟨sm, hsm⟩ : ∃ sm, satW (vGet out x.name + x.n) = sm := ⟨_, rfl⟩
            rw [hsm] at hso
            have HSM := Lib.hid hsm
            have HST := Lib.hid hst
            have HVA := Lib.hid hva
            have hbr : Below wr.heap.size wr wr := Below.refl _ _
            clear hx hxf hst hva hsm
            go_upto_region 13 with (fail)
            go_cut [8] (fun v8 wc => ∃ g, v8 = .pointer (some ⟨g, 0, none⟩) ∧ Below wr.heap.size wr wc ∧ wc.heap[g]? = some (.cells #[.int .i64 (wHi sm), .int .u64 (wLo sm)] 41 (0, 0)))
            case first =>
              go_region_held3 (fun w' => w'.cell? ⟨b, off + k2 * 2, none⟩ = some (.string x.name) ∧ w'.cell? ⟨b, off + k2 * 2 + 1, none⟩ = some (.int .i64 x.n) ∧ Below wr.heap.size wr w')
                (((try dsimp only); (try go_split_ands); (repeat' apply And.intro) <;> first | assumption | (exact keep_cell (bk_alloc hBw _) c0) | (exact keep_cell (bk_alloc hBw _) c1) | (exact bk_alloc hBw _) | (exact bk_put2 hBw (by omega)) | (exact keep_cell (bk_put2 hBw (by omega)) c0) | (exact keep_cell (bk_put2 hBw (by omega)) c1) | (apply keep_cell <;> assumption) | (apply bk_drew; assumption) | (apply bk_then <;> assumption) | (apply bk_alloc; assumption) | (apply bk_alloc; apply bk_drew; assumption) | (apply bk_drew; apply bk_alloc; assumption) | (go_keep; done)))
                (first
                  | (go_at_call 29; go_split_ands; refine (rget_at _ out x.name _ (HVA.out.below (by assumption))).mono ?_; rintro e wa ⟨rfl, hBa⟩; have hBw := bk_then (w := wr) (by assumption) hBa; have hsz := hBw.size; (first | (have kb := blk_below' kb hBa) | (have kb := blk_new hBa) | (have kb := blk_newD hBa) | skip); (first | (have kz := blk2 kb; obtain ⟨z0, z1, f0, f1⟩ := kz) | skip))
                  | (go_at_call 30; go_split_ands; refine (rof_at x.n _ hx0 hx1).mono ?_; rintro e wb ⟨rfl, hBb⟩; have hBw := bk_then (w := wr) (by assumption) hBb; have hsz := hBw.size; (first | (have kb := blk_below' kb hBb) | (have kb := blk_new hBb) | (have kb := blk_newD hBb) | skip); (first | (have kz := blk2 kb; obtain ⟨z0, z1, f0, f1⟩ := kz) | skip))
                  | (go_at_call 17; go_split_ands; refine (radd_at (vGet out x.name) x.n _ hgo hio).mono ?_; rintro e wc ⟨rfl, hBc⟩; have hBw := bk_then (w := wr) (by assumption) hBc; have hsz := hBw.size; (first | (have kb := blk_below' kb hBc) | (have kb := blk_new hBc) | (have kb := blk_newD hBc) | skip); (first | (have kz := blk2 kb; obtain ⟨z0, z1, f0, f1⟩ := kz) | skip); rw [HSM.out]))
              all_goals
                go_wp2_with fail
                go_meet
                case rel => exact (by first | exact ⟨_, rfl, bk_alloc hBw _, heap_at _ _ _ rfl⟩ | exact ⟨_, rfl, bk_put2 hBw (by omega), blk_put2 kb _ _⟩)
            case rest =>
              obtain ⟨g, rfl, hBc, hkg⟩ := hcut
              obtain ⟨z0, z1, _, _⟩ := blk2 hkg
              have d0 := keep_cell hBc c0
              have hvc := HVA.out.below hBc
              have hsz := hBc.size
              have hlo : out.length ≤ 100000000 := by omega
              have hfx := hfo.out
              have HBC := Lib.hid (below_then' hB hbs hBc)
              have hvd : VAt wc.drew _ out := hvc
              have HVD := Lib.hid hvd
              clear hown hkg c0 c1 hvd
              go_wp2_with fail
              go_region_held3 (fun w' => w'.cell? ⟨b, off + k2 * 2, none⟩ = some (.string x.name) ∧ w'.cell? ⟨g, 0, none⟩ = some (.int .i64 (wHi sm)) ∧ w'.cell? ⟨g, 1, none⟩ = some (.int .u64 (wLo sm)))
                (((try dsimp only); (try go_split_ands); (repeat' apply And.intro) <;> first | assumption | (apply keep_cell <;> assumption) | (apply keep_cellD <;> assumption) | (go_keep; done)))
                (first
                  | (go_at_call 31; go_split_ands; refine (put_at _ out x.name sm _ HVD.out hfx hlo hxn).mono ?_; rintro e wp ⟨vp, rfl, hownp, hBp⟩; have hkp := below_undrew hBp))
              go_wp2_with fail
              refine ⟨⟨k2 + 1, vPut out x.name sm, by omega, by go_num, ?_, Lib.hid ?_, Lib.hid ?_, own_weaken' hownp (show w.heap.size ≤ wc.heap.size by omega), below_then' HBC.out (by omega) hkp⟩, by simp [intOf]; omega⟩
              · have := vPut_length out x.name sm
                omega
              · rw [HST.out, vStep, HSM.out]
              · exact vPut_fine hfx hxn hso
          · have hkl : l.take k2 = l := List.take_of_length_le (by omega)
            have HKL := Lib.hid hkl
            clear hkl
            go_wp2_with fail
            go_ret2
            have he : vOf l = (out, 0) := by rw [HV.out, ← hs2.out, HKL.out]
            exact ⟨_, by rw [he]; rfl, by rw [he]; exact hown, hB⟩
end Go.Proofs.YtgjlgpaoilaikaaGreatDoor
