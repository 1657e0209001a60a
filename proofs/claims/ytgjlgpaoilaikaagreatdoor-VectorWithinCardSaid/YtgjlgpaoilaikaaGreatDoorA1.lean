/-
  The live question of layer 4: whatever the order of the maps, the answer is true.
-/
import Derived.Test.YtgjlgpaoilaikaaGreatDoorP1
import Derived.Test.YtgjlgpaoilaikaaGreatDoorT2
import Derived.Test.YtgjlgpaoilaikaaGreatDoorQ5
namespace Go.Proofs.YtgjlgpaoilaikaaGreatDoor
open Go.RowKit Go.Maps Go.Sort

theorem lit_at {α : Type} {enc : α → List Value} {size : Nat} (xs : List α) (w : World) (t : TypeId) (cs : Array Value) (h : cs = (xs.flatMap enc).toArray) (hs : ∀ x, (enc x).length = size) (hl : xs.length ≤ 9223372036854775807) :
    SlAt (fun _ x c => c = enc x) size (w.alloc (.cells cs t)) (.slice (some ⟨w.heap.size, 0, none⟩) xs.length xs.length) xs := by
  have hmem : ∀ (l : List α) (j : Nat) (x : α), l[j]? = some x → ∀ i u, (enc x)[i]? = some u → (l.flatMap enc)[j * size + i]? = some u := by
    intro l
    induction l with
    | nil => intro j x hj; simp at hj
    | cons a l ih =>
      intro j x hj i u hi
      have hil : i < size := by rw [← hs x]; exact (List.getElem?_eq_some_iff.1 hi).1
      rw [List.flatMap_cons]
      cases j with
      | zero =>
        simp at hj
        subst hj
        rw [List.getElem?_append_left (by rw [hs]; omega)]
        simpa using hi
      | succ j =>
        simp at hj
        have e1 : (j + 1) * size + i = size + (j * size + i) := by rw [Nat.succ_mul]; omega
        rw [e1, List.getElem?_append_right (by rw [hs]; omega), hs]
        simpa using ih j x hj i u hi
  refine ⟨_, _, rfl, Nat.le_refl _, hl, fun _ => ⟨w.heap.size, 0, rfl, by simp, fun j x hj => ⟨enc x, hs x, rfl, fun i u hi => ?_⟩⟩⟩
  rw [blk_cell' (heap_at _ _ _ rfl), h]
  simpa using hmem xs j x hj i u hi
def aMem : ByteArray := ⟨#[109, 101, 109]⟩
def aCpu : ByteArray := ⟨#[99, 112, 117]⟩
def aGpu : ByteArray := ⟨#[103, 112, 117]⟩
def aX : ByteArray := ⟨#[120]⟩
def aA : List Ent := [⟨aCpu, 2⟩, ⟨aMem, 9⟩]
def aB : List Ent := [⟨aGpu, -1⟩, ⟨aMem, 9⟩]
def aS : List Ent := [⟨aCpu, 2⟩, ⟨aGpu, 1⟩]
def aH : List Ent := [⟨aCpu, 2⟩, ⟨aMem, 8⟩]
def aR : List Res := [⟨aMem, 5⟩, ⟨aCpu, 2⟩, ⟨aMem, 4⟩, ⟨aX, 0⟩]
theorem al_of : vOfP aR = (aA, 0) := by rw [vOf_eq]; kernel_rfl
theorem al_right : vRight aA = true ∧ vRight aB = true ∧ vRight aS = true ∧ vRight aH = true := ⟨by kernel_rfl, by kernel_rfl, by kernel_rfl, by kernel_rfl⟩
theorem al_sub : vSub aA aS = (aB, 0) := by
  obtain ⟨hA, hB, hS, _⟩ := al_right
  have hG : ∀ s, G aA s - G aS s = G aB s := by
    intro s
    simp only [aA, aS, aB, G_cons, G_nil]
    have h1 : nm aCpu ≠ nm aMem := by decide
    have h2 : nm aCpu ≠ nm aGpu := by decide
    have h3 : nm aMem ≠ nm aGpu := by decide
    by_cases c1 : nm aCpu = s
    · subst c1; simp [h1.symm, h2.symm]
    · by_cases c2 : nm aMem = s
      · subst c2; simp [h1, h3.symm]
      · by_cases c3 : nm aGpu = s <;> simp [c1, c2, c3]
  have hf : VFine aB := by
    intro x hx
    simp only [aB, List.mem_cons, List.not_mem_nil, or_false] at hx
    rcases hx with rfl | rfl
    · exact ⟨by decide, by decide⟩
    · exact ⟨by decide, by decide⟩
  obtain ⟨r, e, h1, h2⟩ := sub_ok hA hS (fun s => by rw [hG]; exact G_wOk hf s)
  rw [e, v_eq h1 hB fun s => by rw [h2, hG]]
theorem al_add : vAdd aA [⟨aX, 0⟩] = ([], 1) := both_arg (by kernel_rfl)
theorem dig1 (m : Nat) (h : m < 10) : dig m = [UInt8.ofNat (48 + m)] := by rw [dig, if_pos h]
theorem al_text : vText aA = [99, 112, 117, 61, 50, 44, 109, 101, 109, 61, 57] ∧ vText aB = [103, 112, 117, 61, 45, 49, 44, 109, 101, 109, 61, 57] := by
  have t2 : wText 2 = [50] := by rw [wText, if_neg (by decide)]; exact dig1 2 (by decide)
  have t9 : wText 9 = [57] := by rw [wText, if_neg (by decide)]; exact dig1 9 (by decide)
  have t1 : wText (-1) = [45, 49] := by rw [wText, if_pos (by decide)]; exact congrArg _ (dig1 1 (by decide))
  obtain ⟨hA, hB, _⟩ := al_right
  unfold vText vTextL
  rw [if_pos hA, if_pos hB]
  constructor
  · show Lib.join [nm aCpu ++ 61 :: wText 2, nm aMem ++ 61 :: wText 9] [44] = _
    rw [t2, t9]; rfl
  · show Lib.join [nm aGpu ++ 61 :: wText (-1), nm aMem ++ 61 :: wText 9] [44] = _
    rw [t1, t9]; rfl
theorem al_parse : vParse (nm ⟨#[99, 112, 117, 61, 50, 107, 44, 109, 101, 109, 61, 49]⟩) = ([⟨aCpu, 2000⟩, ⟨aMem, 1⟩], 0) ∧ vParse (nm ⟨#[109, 101, 109, 61, 49, 44, 99, 112, 117, 61, 50]⟩) = ([], 2) ∧ vParse (nm ⟨#[99, 112, 117, 61, 48, 49, 44, 109, 101, 109]⟩) = ([], 2) := ⟨by kernel_rfl, by kernel_rfl, by kernel_rfl⟩
theorem al_rest : vWithin aA aH = (false, aMem) ∧ vFits aA = true ∧ vGet aA aMem = 9 ∧ vSame aA aA = true ∧ vSame aA aB = false := ⟨by kernel_rfl, by kernel_rfl, by kernel_rfl, by kernel_rfl, by kernel_rfl⟩
theorem fine_nil : VFine [] := fun _ h => by cases h
theorem fine_cons {x : Ent} {xs : List Ent} (h : EntOk x) (k : VFine xs) : VFine (x :: xs) := fun y hy => (List.mem_cons.1 hy).elim (fun e => e ▸ h) (k y)
theorem rfine_nil : RFine [] := fun _ h => by cases h
theorem rfine_cons {x : Res} {xs : List Res} (h : ResOk x) (k : RFine xs) : RFine (x :: xs) := fun y hy => (List.mem_cons.1 hy).elim (fun e => e ▸ h) (k y)
theorem small_nil : Small [] := fun _ h => by cases h
theorem small_cons {x : Ent} {xs : List Ent} (h : -18446744073709551616 < x.n ∧ x.n < 18446744073709551616) (k : Small xs) : Small (x :: xs) := fun y hy => (List.mem_cons.1 hy).elim (fun e => e ▸ h) (k y)
theorem al_fine : VFine aA ∧ VFine aB ∧ VFine aS ∧ VFine aH ∧ VFine [⟨aX, 0⟩] ∧ RFine aR ∧ Small aA ∧ Small aB :=
  ⟨fine_cons ⟨by decide, by decide⟩ (fine_cons ⟨by decide, by decide⟩ fine_nil), fine_cons ⟨by decide, by decide⟩ (fine_cons ⟨by decide, by decide⟩ fine_nil),
   fine_cons ⟨by decide, by decide⟩ (fine_cons ⟨by decide, by decide⟩ fine_nil), fine_cons ⟨by decide, by decide⟩ (fine_cons ⟨by decide, by decide⟩ fine_nil), fine_cons ⟨by decide, by decide⟩ fine_nil,
   rfine_cons ⟨by decide, by decide, by decide⟩ (rfine_cons ⟨by decide, by decide, by decide⟩ (rfine_cons ⟨by decide, by decide, by decide⟩ (rfine_cons ⟨by decide, by decide, by decide⟩ rfine_nil))),
   small_cons ⟨by decide, by decide⟩ (small_cons ⟨by decide, by decide⟩ small_nil), small_cons ⟨by decide, by decide⟩ (small_cons ⟨by decide, by decide⟩ small_nil)⟩

/-! ### contracts whose answers are told -/
theorem vof_is (va : Value) (l : List Res) (r : List Ent) (e0 : Int) (w : World) (ha : RAt w va l) (hf : RFine l) (hl : l.length ≤ 100000000) (h : vOfP l = (r, e0)) :
    Calls Tryz.prog 7 #[va] w fun e w' => ∃ v, e = .returned (.tuple #[v, .int .i64 e0]) ∧ w'.ownsRow w.heap.size 45 3 v r.length (r.flatMap encE) ∧ Below w.heap.size w w' := by
  have := vof_any va l w ha hf hl
  rw [h] at this
  exact this
theorem vadd_is (va vb : Value) (xs ys r : List Ent) (e0 : Int) (w : World) (ha : VAt w va xs) (hb : VAt w vb ys) (hfa : VFine xs) (hfb : VFine ys) (hla : xs.length ≤ 10000000) (hlb : ys.length ≤ 10000000) (h : vAdd xs ys = (r, e0)) :
    Calls Tryz.prog 14 #[va, vb] w fun e w' => ∃ v, e = .returned (.tuple #[v, .int .i64 e0]) ∧ w'.ownsRow w.heap.size 45 3 v r.length (r.flatMap encE) ∧ Below w.heap.size w w' := by
  have := vadd_any va vb xs ys w ha hb hfa hfb hla hlb
  rw [vAdd] at h
  rw [h] at this
  exact this
theorem vsub_is (va vb : Value) (xs ys r : List Ent) (e0 : Int) (w : World) (ha : VAt w va xs) (hb : VAt w vb ys) (hfa : VFine xs) (hfb : VFine ys) (hla : xs.length ≤ 10000000) (hlb : ys.length ≤ 10000000) (h : vSub xs ys = (r, e0)) :
    Calls Tryz.prog 15 #[va, vb] w fun e w' => ∃ v, e = .returned (.tuple #[v, .int .i64 e0]) ∧ w'.ownsRow w.heap.size 45 3 v r.length (r.flatMap encE) ∧ Below w.heap.size w w' := by
  have := vsub_any va vb xs ys w ha hb hfa hfb hla hlb
  rw [vSub] at h
  rw [h] at this
  exact this
theorem vparse_is (s : ByteArray) (r : List Res) (e0 : Int) (w : World) (hs : s.size ≤ 100000) (hg : Glob w) (h : vParse (nm s) = (r, e0)) :
    Calls Tryz.prog 9 #[.string s] w fun e w' => ∃ v, e = .returned (.tuple #[v, .int .i64 e0]) ∧ w'.ownsRow w.heap.size 25 2 v r.length (r.flatMap encR) ∧ Below w.heap.size w w' := by
  have := vparse_any s w hs hg
  rw [h] at this
  exact this
theorem within_is (va vb : Value) (xs ys : List Ent) (b : Bool) (s : ByteArray) (w : World) (ha : VAt w va xs) (hb : VAt w vb ys) (hfa : VFine xs) (hfb : VFine ys) (h : vWithin xs ys = (b, s)) :
    Calls Tryz.prog 19 #[va, vb] w fun e w' => e = .returned (.tuple #[.bool b, .string s]) ∧ Below w.heap.size w w' := by
  have := within_any va vb xs ys w ha hb hfa hfb
  rw [h] at this
  exact this
theorem vtext_is (va : Value) (xs : List Ent) (t : ByteArray) (w : World) (ha : VAt w va xs) (hf : VFine xs) (hsm : Small xs) (hl : xs.length ≤ 100000000) (h : ba (vText xs) = t) :
    Calls Tryz.prog 21 #[va] w fun e w' => e = .returned (.string t) ∧ Below w.heap.size w w' := by
  have := vtext_any va xs w ha hf hsm hl
  rw [h] at this
  exact this
theorem vfits_is (va : Value) (xs : List Ent) (r : Bool) (w : World) (ha : VAt w va xs) (hf : VFine xs) (h : vFits xs = r) :
    Calls Tryz.prog 22 #[va] w fun e w' => e = .returned (.bool r) ∧ Below w.heap.size w w' := by
  have := vfits_any va xs w ha hf
  rw [h] at this
  exact this
theorem same_is (va vb : Value) (xs ys : List Ent) (r : Bool) (w : World) (ha : VAt w va xs) (hb : VAt w vb ys) (h : vSame xs ys = r) :
    Calls Tryz.prog 23 #[va, vb] w fun e w' => e = .returned (.bool r) ∧ Below w.heap.size w w' := by
  have := same_any va vb xs ys w ha hb
  rw [h] at this
  exact this

theorem field_lo (W : World) (x y : Int) : (Instr.field 41 (.agg #[.int .i64 x, .int .u64 y]) 1).run Tryz.prog W = .ok (.int .u64 y) W := by
  simp only [Instr.field, Sem.run_bind, run_underlying Tryz.underlying41]
  go_simp
  first | rfl | (kernel_rfl)

set_option maxRecDepth 100000 in
set_option maxHeartbeats 4000000 in
theorem alive_any (w : World) (hg : Glob w) :
    Calls Tryz.prog 6 #[] w fun e w' => e = .returned (.bool true) ∧ Below w.heap.size w w' := by
  have HG := Lib.hid hg
  have HF := Lib.hid al_fine
  clear hg
  go_enter Tryz.func6, Tryz.ntmps6
  go_wp2_with fail
  -- Of
  have hb0 : Below w.heap.size w (w.alloc (.cells #[.string ⟨#[109, 101, 109]⟩, .int .i64 5, .string ⟨#[99, 112, 117]⟩, .int .i64 2, .string ⟨#[109, 101, 109]⟩, .int .i64 4, .string ⟨#[120]⟩, .int .i64 0] 25)) := (Below.refl _ _).alloc (Nat.le_refl _) _
  refine (vof_is _ aR aA 0 _ (lit_at (enc := encR) aR w _ _ rfl (fun _ => rfl) (by decide)) HF.out.2.2.2.2.2.1 (by decide) al_of).mono ?_
  rintro e w1 ⟨va, rfl, ho1, hb1⟩
  have hB1 := below_then' hb0 (by simp) hb1
  have HA1 := Lib.hid (own_VAt ho1 : VAt w1 va aA)
  clear hb0 ho1 hb1
  go_wp2_with fail
  -- Sub
  have hb0 := (Below.refl w1.heap.size w1).alloc (Nat.le_refl _) (.cells #[.string ⟨#[99, 112, 117]⟩, .int .i64 0, .int .u64 2, .string ⟨#[103, 112, 117]⟩, .int .i64 0, .int .u64 1] 45)
  refine (vsub_is va _ aA aS aB 0 _ (HA1.out.below hb0) (lit_at (enc := encE) aS w1 _ _ rfl (fun _ => rfl) (by decide)) HF.out.1 HF.out.2.2.1 (by decide) (by decide) al_sub).mono ?_
  rintro e w2 ⟨vb, rfl, ho2, hb1⟩
  have hb2 := below_then' hb0 (by simp) hb1
  have hB2 := below_then' hB1 hB1.size hb2
  have HA2 := Lib.hid (HA1.out.below hb2)
  have HB2 := Lib.hid (own_VAt ho2 : VAt w2 vb aB)
  clear hb0 ho2 hb1 hb2 hB1 HA1
  go_wp2_with fail
  -- Add
  have hb0 := (Below.refl w2.heap.size w2).alloc (Nat.le_refl _) (.cells #[.string ⟨#[120]⟩, .int .i64 0, .int .u64 0] 45)
  refine (vadd_is va _ aA [⟨aX, 0⟩] [] 1 _ (HA2.out.below hb0) (lit_at (enc := encE) [⟨aX, 0⟩] w2 _ _ rfl (fun _ => rfl) (by decide)) HF.out.1 HF.out.2.2.2.2.1 (by decide) (by decide) al_add).mono ?_
  rintro e w3 ⟨vc, rfl, _, hb1⟩
  have hb2 := below_then' hb0 (by simp) hb1
  have hB3 := below_then' hB2 hB2.size hb2
  have HA3 := Lib.hid (HA2.out.below hb2)
  have HB3 := Lib.hid (HB2.out.below hb2)
  clear hb0 hb1 hb2 hB2 HA2 HB2
  go_wp2_with fail
  -- Parse
  refine (vparse_is _ _ _ _ (by decide) (HG.out.below hB3) al_parse.1).mono ?_
  rintro e w4 ⟨vl, rfl, ho4, hb2⟩
  obtain ⟨gl, cl, rfl, _, hcl1, hcl2, _, hcl⟩ := own_some ho4 (by decide)
  have l0 : w4.cell? ⟨gl, 1, none⟩ = some (.int .i64 2000) := hcl 1 _ rfl
  have hB4 := below_then' hB3 hB3.size hb2
  have HA4 := Lib.hid (HA3.out.below hb2)
  have HB4 := Lib.hid (HB3.out.below hb2)
  clear hb2 hB3 HA3 HB3 ho4 hcl
  go_wp2_with fail
  refine (vparse_is _ _ _ _ (by decide) (HG.out.below hB4) al_parse.2.1).mono ?_
  rintro e w5 ⟨vp, rfl, _, hb2⟩
  have l5 := keep_cell hb2 l0
  have hB5 := below_then' hB4 hB4.size hb2
  have HA5 := Lib.hid (HA4.out.below hb2)
  have HB5 := Lib.hid (HB4.out.below hb2)
  clear hb2 hB4 HA4 HB4 l0
  go_wp2_with fail
  refine (vparse_is _ _ _ _ (by decide) (HG.out.below hB5) al_parse.2.2).mono ?_
  rintro e w6 ⟨vq, rfl, _, hb2⟩
  have l6 := keep_cell hb2 l5
  have hB6 := below_then' hB5 hB5.size hb2
  have HA6 := Lib.hid (HA5.out.below hb2)
  have HB6 := Lib.hid (HB5.out.below hb2)
  clear hb2 hB5 HA5 HB5 l5
  go_wp2_with fail
  -- Within
  have hb0 := (Below.refl w6.heap.size w6).alloc (Nat.le_refl _) (.cells #[.string ⟨#[99, 112, 117]⟩, .int .i64 0, .int .u64 2, .string ⟨#[109, 101, 109]⟩, .int .i64 0, .int .u64 8] 45)
  refine (within_is va _ aA aH false aMem _ (HA6.out.below hb0) (lit_at (enc := encE) aH w6 _ _ rfl (fun _ => rfl) (by decide)) HF.out.1 HF.out.2.2.2.1 al_rest.1).mono ?_
  rintro e w7 ⟨rfl, hb1⟩
  have hb2 := below_then' hb0 (by simp) hb1
  have l7 := keep_cell hb2 l6
  have hB7 := below_then' hB6 hB6.size hb2
  have HA7 := Lib.hid (HA6.out.below hb2)
  have HB7 := Lib.hid (HB6.out.below hb2)
  clear hb0 hb1 hb2 hB6 HA6 HB6 l6
  go_wp2_with fail
  -- the answer
  refine (vtext_is va aA _ _ HA7.out HF.out.1 HF.out.2.2.2.2.2.2.1 (by decide) (congrArg ba al_text.1)).mono ?_
  rintro e w8 ⟨rfl, hb2⟩
  have l8 := keep_cell hb2 l7
  have hB8 := below_then' hB7 hB7.size hb2
  have HA8 := Lib.hid (HA7.out.below hb2)
  have HB8 := Lib.hid (HB7.out.below hb2)
  have t1 : ((ba [99, 112, 117, 61, 50, 44, 109, 101, 109, 61, 57]).toList == [99, 112, 117, 61, 50, 44, 109, 101, 109, 61, 57]) = true := by rw [nm_toList]; decide
  clear hb2 hB7 HA7 HB7 l7
  go_wp2_with fail
  refine (vtext_is vb aB _ _ HB8.out HF.out.2.1 HF.out.2.2.2.2.2.2.2 (by decide) (congrArg ba al_text.2)).mono ?_
  rintro e w9 ⟨rfl, hb2⟩
  have l9 := keep_cell hb2 l8
  have hB9 := below_then' hB8 hB8.size hb2
  have HA9 := Lib.hid (HA8.out.below hb2)
  have HB9 := Lib.hid (HB8.out.below hb2)
  have t2 : ((ba [103, 112, 117, 61, 45, 49, 44, 109, 101, 109, 61, 57]).toList == [103, 112, 117, 61, 45, 49, 44, 109, 101, 109, 61, 57]) = true := by rw [nm_toList]; decide
  have t3 : (aMem.toList == [109, 101, 109]) = true := by rw [nm_toList]; decide
  clear hb2 hB8 HA8 HB8 l8
  go_wp2_with fail
  refine (vfits_is va aA true _ HA9.out HF.out.1 al_rest.2.1).mono ?_
  rintro e w10 ⟨rfl, hb2⟩
  have l10 := keep_cell hb2 l9
  have hB10 := below_then' hB9 hB9.size hb2
  have HA10 := Lib.hid (HA9.out.below hb2)
  have HB10 := Lib.hid (HB9.out.below hb2)
  clear hb2 hB9 HA9 HB9 l9
  go_wp2_with fail
  refine (vright_is vb aB true _ HB10.out HF.out.2.1 al_right.2.1).mono ?_
  rintro e w11 ⟨rfl, hb2⟩
  have l11 := keep_cell hb2 l10
  have hB11 := below_then' hB10 hB10.size hb2
  have HA11 := Lib.hid (HA10.out.below hb2)
  have HB11 := Lib.hid (HB10.out.below hb2)
  clear hb2 hB10 HA10 HB10 l10
  go_wp2_with fail
  have hfd := fun W => field_lo W (wHi 9) (wLo 9)
  have hl9 : (wLo 9 == 9) = true := by decide
  refine (get_is va aA aMem 9 _ HA11.out al_rest.2.2.1).mono ?_
  rintro e w12 ⟨rfl, hb2⟩
  have l12 := keep_cell hb2 l11
  have hB12 := below_then' hB11 hB11.size hb2
  have HA12 := Lib.hid (HA11.out.below hb2)
  have HB12 := Lib.hid (HB11.out.below hb2)
  clear hb2 hB11 HA11 HB11 l11
  go_wp2_with fail
  refine (same_is va va aA aA true _ HA12.out HA12.out al_rest.2.2.2.1).mono ?_
  rintro e w13 ⟨rfl, hb2⟩
  have l13 := keep_cell hb2 l12
  have hB13 := below_then' hB12 hB12.size hb2
  have HA13 := Lib.hid (HA12.out.below hb2)
  have HB13 := Lib.hid (HB12.out.below hb2)
  clear hb2 hB12 HA12 HB12 l12
  go_wp2_with fail
  refine (same_is va vb aA aB false _ HA13.out HB13.out al_rest.2.2.2.2).mono ?_
  rintro e w14 ⟨rfl, hb2⟩
  go_wp2_with fail
  go_ret
  exact ⟨rfl, below_then' hB13 hB13.size hb2⟩
end Go.Proofs.YtgjlgpaoilaikaaGreatDoor
