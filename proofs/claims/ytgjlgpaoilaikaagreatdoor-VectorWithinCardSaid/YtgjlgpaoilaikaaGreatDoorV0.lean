/-
  Layer 4: vectors: entries, what a vector has of a name, whether it may be; the program's Get, Right, and the reference's Get, Same, put.
-/
import Derived.Test.YtgjlgpaoilaikaaGreatDoorL1
import Derived.Test.YtgjlgpaoilaikaaGreatDoorL2c
namespace Go.Proofs.YtgjlgpaoilaikaaGreatDoor
open Go.RowKit

def nm (s : ByteArray) : List UInt8 := s.data.toList
theorem nm_inj {a b : ByteArray} (h : nm a = nm b) : a = b := by
  obtain ⟨⟨a⟩⟩ := a
  obtain ⟨⟨b⟩⟩ := b
  simpa [nm] using h
theorem nm_toList (a : ByteArray) : a.toList = nm a := ByteArray.toList_eq a
/-- an entry: a name, a whole number of 128 bits -/
structure Ent where
  name : ByteArray
  n : Int
def encE (x : Ent) : List Value := [.string x.name, .int .i64 (wHi x.n), .int .u64 (wLo x.n)]
def KE : World → Ent → List Value → Prop := fun _ x cs => cs = encE x
def VAt (w : World) (v : Value) (xs : List Ent) : Prop := SlAt KE 3 w v xs
def EntOk (x : Ent) : Prop := x.name.size ≤ 9223372036854775807 ∧ wOk x.n = true
def VFine (xs : List Ent) : Prop := ∀ x ∈ xs, EntOk x

theorem VAt.below {w w1 : World} {v : Value} {xs : List Ent} (h : VAt w v xs) (hb : Below w.heap.size w w1) : VAt w1 v xs := SlAt.below h hb fun _ _ hk => hk
theorem VAt.some_ {w : World} {v : Value} {xs : List Ent} (h : VAt w v xs) (hp : 0 < xs.length) : ∃ b off c, v = .slice (some ⟨b, off, none⟩) xs.length c ∧ xs.length ≤ c ∧ c ≤ 9223372036854775807 ∧ b < w.heap.size ∧
    ∀ j x, xs[j]? = some x → w.cell? ⟨b, off + j * 3, none⟩ = some (.string x.name) ∧ w.cell? ⟨b, off + j * 3 + 1, none⟩ = some (.int .i64 (wHi x.n)) ∧ w.cell? ⟨b, off + j * 3 + 2, none⟩ = some (.int .u64 (wLo x.n)) := by
  obtain ⟨b, off, c, rfl, h1, h2, h3, h4⟩ := SlAt.some_ h hp
  refine ⟨b, off, c, rfl, h1, h2, h3, fun j x hj => ?_⟩
  obtain ⟨cs, _, rfl, hc⟩ := h4 j x hj
  exact ⟨hc 0 _ rfl, hc 1 _ rfl, hc 2 _ rfl⟩
/-- not empty: where it lies, and its cells, in whatever world above the one at hand -/
theorem VAt.all {w : World} {v : Value} {xs : List Ent} (h : VAt w v xs) (hp : 0 < xs.length) : ∃ b off c, v = .slice (some ⟨b, off, none⟩) xs.length c ∧ xs.length ≤ c ∧ c ≤ 9223372036854775807 ∧ b < w.heap.size ∧
    ∀ W, Below w.heap.size w W → ∀ j x, xs[j]? = some x → W.cell? ⟨b, off + j * 3, none⟩ = some (.string x.name) ∧ W.cell? ⟨b, off + j * 3 + 1, none⟩ = some (.int .i64 (wHi x.n)) ∧ W.cell? ⟨b, off + j * 3 + 2, none⟩ = some (.int .u64 (wLo x.n)) := by
  obtain ⟨b, off, c, rfl, h1, h2, h3, h4⟩ := VAt.some_ h hp
  refine ⟨b, off, c, rfl, h1, h2, h3, fun W hB j x hj => ?_⟩
  obtain ⟨c0, c1, c2⟩ := h4 j x hj
  exact ⟨(hB.cell (p := ⟨b, _, none⟩) h3).trans c0, (hB.cell (p := ⟨b, _, none⟩) h3).trans c1, (hB.cell (p := ⟨b, _, none⟩) h3).trans c2⟩
theorem own_VAt {w : World} {base : Nat} {e : TypeId} {v : Value} {xs : List Ent} (h : w.ownsRow base e 3 v xs.length (xs.flatMap encE)) : VAt w v xs := own_slAt h (fun _ => rfl)

/-- how much a vector has of a name -/
def vGet (xs : List Ent) (name : ByteArray) : Int := match xs.find? (fun x => nm x.name == nm name) with | some x => x.n | none => 0
theorem vGet_at {xs : List Ent} {name : ByteArray} {k : Nat} {x : Ent} (hx : xs[k]? = some x) (hb : ∀ j y, j < k → xs[j]? = some y → (nm y.name == nm name) = false) (he : (nm x.name == nm name) = true) : vGet xs name = x.n := by
  have : xs.find? (fun x => nm x.name == nm name) = some x := by
    rw [List.find?_eq_some_iff_getElem]
    obtain ⟨hk, rfl⟩ := List.getElem?_eq_some_iff.1 hx
    refine ⟨he, k, hk, rfl, fun j hj => ?_⟩
    have := hb j _ hj (List.getElem?_eq_getElem (by omega))
    simpa using this
  simp [vGet, this]
theorem vGet_none {xs : List Ent} {name : ByteArray} (hb : ∀ j y, j < xs.length → xs[j]? = some y → (nm y.name == nm name) = false) : vGet xs name = 0 := by
  have : xs.find? (fun x => nm x.name == nm name) = none := by
    rw [List.find?_eq_none]
    intro y hy
    obtain ⟨j, hj, rfl⟩ := List.getElem_of_mem hy
    have := hb j _ hj (List.getElem?_eq_getElem hj)
    simpa using this
  simp [vGet, this]

set_option maxRecDepth 100000 in
set_option maxHeartbeats 1000000 in
theorem get_any (va : Value) (xs : List Ent) (name : ByteArray) (w : World) (ha : VAt w va xs) :
    Calls Tryz.prog 18 #[va, .string name] w fun e w' => e = .returned (wV (vGet xs name)) ∧ Below w.heap.size w w' := by
  rcases Nat.eq_zero_or_pos xs.length with h0 | hp
  · obtain rfl : xs = [] := List.eq_nil_of_length_eq_zero h0
    obtain ⟨A, c, rfl, _⟩ := SlAt.form ha
    go_enter Tryz.func18, Tryz.ntmps18
    go_wp2_with fail
    refine wp_loop_rounds 1 ?_
    rw [rounds_succ]
    go_wp2_with fail
    exact ret_c rfl w.heap.size 41 _ (0, 0) _ rfl (heap_alloc_new _ _) Tryz.underlying41 rfl (by kernel_rfl) rfl ⟨rfl, (Below.refl _ _).alloc (Nat.le_refl _) _⟩
  · obtain ⟨b, off, c, rfl, hlc, hcm, hlt, hcell⟩ := ha.some_ hp
    clear ha
    have HC := Lib.hid hcell
    clear hcell
    go_enter Tryz.func18, Tryz.ntmps18
    go_wp2_with fail
    obtain ⟨W1, hW1, HS, HK, hB1⟩ := box1 w #[.int .i64 0, .int .u64 0] 41
    rw [hW1]
    clear hW1
    go_loopw [9] (fun i wr => ∃ (k : Nat), k ≤ xs.length ∧ i = .int .i64 k ∧ Below W1.heap.size W1 wr ∧ Hid (∀ j y, j < k → xs[j]? = some y → (nm y.name == nm name) = false)) (fun i _ => xs.length - (intOf i).toNat)
    case atStart => exact ⟨0, by omega, rfl, Below.refl _ _, Lib.hid (fun j y hj => by omega)⟩
    case round =>
      obtain ⟨k, hk, rfl, hB, hs⟩ := hrel
      have hbs := hB.size
      obtain ⟨z0, z1, f0, f1⟩ := blk2 (blk_below' HK.out hB)
      have KR := Lib.hid (blk_below' HK.out hB)
      have hBB := below_then' hB1 (by rw [HS.out]; omega) hB
      have hlw : w.heap.size < wr.heap.size := by have := HS.out; omega
      by_cases hlt2 : k < xs.length
      · obtain ⟨x, hx⟩ : ∃ x, xs[k]? = some x := ⟨_, List.getElem?_eq_getElem hlt2⟩
        obtain ⟨c0, c1, c2⟩ := HC.out k x hx
        have d0 := (hBB.cell (p := ⟨b, off + k * 3, none⟩) hlt).trans c0
        have d1 := (hBB.cell (p := ⟨b, off + k * 3 + 1, none⟩) hlt).trans c1
        have d2 := (hBB.cell (p := ⟨b, off + k * 3 + 2, none⟩) hlt).trans c2
        have HX := Lib.hid hx
        clear hx c0 c1 c2
        go_wp2_with fail
        · have he : (x.name.toList == name.toList) = true := by assumption
          rw [nm_toList, nm_toList] at he
          refine ret_c rfl w.heap.size 41 #[.int .i64 (wHi x.n), .int .u64 (wLo x.n)] (0, 0) _ rfl ((Below.heap_alloc _ _ _ (by simp; omega)).trans (blk_put2 KR.out _ _)) Tryz.underlying41 rfl (by kernel_rfl) rfl ⟨?_, ((hBB.setCell (Nat.le_refl _) _).setCell (Nat.le_refl _) _).alloc (by simp; omega) _⟩
          rw [vGet_at HX.out hs.out he]
          rfl
        · have he : (x.name.toList == name.toList) = false := by assumption
          rw [nm_toList, nm_toList] at he
          refine ⟨⟨k + 1, by omega, by go_num, hB.alloc hbs _, Lib.hid fun j y hj hy => ?_⟩, by simp [intOf]; omega⟩
          rcases Nat.lt_or_ge j k with h | h
          · exact hs.out j y h hy
          · obtain rfl : j = k := by omega
            rw [HX.out] at hy
            cases hy
            exact he
      · have hkl : k = xs.length := by omega
        go_wp2_with fail
        refine ret_c rfl w.heap.size 41 #[.int .i64 0, .int .u64 0] (0, 0) _ rfl (blk_put2 KR.out _ _) Tryz.underlying41 rfl (by kernel_rfl) rfl ⟨?_, (hBB.setCell (Nat.le_refl _) _).setCell (Nat.le_refl _) _⟩
        rw [vGet_none (hkl ▸ hs.out)]
        rfl

set_option maxRecDepth 100000 in
set_option maxHeartbeats 1000000 in
theorem rget_any (va : Value) (xs : List Ent) (name : ByteArray) (w : World) (ha : VAt w va xs) :
    Calls Tryz.prog 29 #[va, .string name] w fun e w' => e = .returned (wV (vGet xs name)) ∧ Below w.heap.size w w' := by
  rcases Nat.eq_zero_or_pos xs.length with h0 | hp
  · obtain rfl : xs = [] := List.eq_nil_of_length_eq_zero h0
    obtain ⟨A, c, rfl, _⟩ := SlAt.form ha
    go_enter Tryz.func29, Tryz.ntmps29
    go_wp2_with fail
    refine wp_loop_rounds 1 ?_
    rw [rounds_succ]
    go_wp2_with fail
    exact ret_c rfl w.heap.size 41 _ (0, 0) _ rfl (heap_alloc_new _ _) Tryz.underlying41 rfl (by kernel_rfl) rfl ⟨rfl, (Below.refl _ _).alloc (Nat.le_refl _) _⟩
  · obtain ⟨b, off, c, rfl, hlc, hcm, hlt, hcell⟩ := ha.some_ hp
    clear ha
    have HC := Lib.hid hcell
    clear hcell
    go_enter Tryz.func29, Tryz.ntmps29
    go_wp2_with fail
    obtain ⟨W1, hW1, HS, HK, hB1⟩ := box1 w #[.int .i64 0, .int .u64 0] 41
    rw [hW1]
    clear hW1
    go_loopw [5] (fun i wr => ∃ (k : Nat), k ≤ xs.length ∧ i = .int .i64 k ∧ wr = W1 ∧ Hid (∀ j y, j < k → xs[j]? = some y → (nm y.name == nm name) = false)) (fun i _ => xs.length - (intOf i).toNat)
    case atStart => exact ⟨0, by omega, rfl, rfl, Lib.hid (fun j y hj => by omega)⟩
    case round =>
      obtain ⟨k, hk, rfl, rfl, hs⟩ := hrel
      obtain ⟨z0, z1, f0, f1⟩ := blk2 HK.out
      by_cases hlt2 : k < xs.length
      · obtain ⟨x, hx⟩ : ∃ x, xs[k]? = some x := ⟨_, List.getElem?_eq_getElem hlt2⟩
        obtain ⟨c0, c1, c2⟩ := HC.out k x hx
        have d0 := (hB1.cell (p := ⟨b, off + k * 3, none⟩) hlt).trans c0
        have d1 := (hB1.cell (p := ⟨b, off + k * 3 + 1, none⟩) hlt).trans c1
        have d2 := (hB1.cell (p := ⟨b, off + k * 3 + 2, none⟩) hlt).trans c2
        have HX := Lib.hid hx
        clear hx c0 c1 c2
        go_wp2_with fail
        · have he : (x.name.toList == name.toList) = true := by assumption
          rw [nm_toList, nm_toList] at he
          refine ret_c rfl w.heap.size 41 #[.int .i64 (wHi x.n), .int .u64 (wLo x.n)] (0, 0) _ rfl (blk_put2 HK.out _ _) Tryz.underlying41 rfl (by kernel_rfl) rfl ⟨?_, (hB1.setCell (Nat.le_refl _) _).setCell (Nat.le_refl _) _⟩
          rw [vGet_at HX.out hs.out he]
          rfl
        · have he : (x.name.toList == name.toList) = false := by assumption
          rw [nm_toList, nm_toList] at he
          refine ⟨⟨k + 1, by omega, by go_num, trivial, Lib.hid fun j y hj hy => ?_⟩, by simp [intOf]; omega⟩
          rcases Nat.lt_or_ge j k with h | h
          · exact hs.out j y h hy
          · obtain rfl : j = k := by omega
            rw [HX.out] at hy
            cases hy
            exact he
      · have hkl : k = xs.length := by omega
        go_wp2_with fail
        refine ret_c rfl w.heap.size 41 #[.int .i64 0, .int .u64 0] (0, 0) _ rfl (blk_put2 HK.out _ _) Tryz.underlying41 rfl (by kernel_rfl) rfl ⟨?_, (hB1.setCell (Nat.le_refl _) _).setCell (Nat.le_refl _) _⟩
        rw [vGet_none (hkl ▸ hs.out)]
        rfl

end Go.Proofs.YtgjlgpaoilaikaaGreatDoor
