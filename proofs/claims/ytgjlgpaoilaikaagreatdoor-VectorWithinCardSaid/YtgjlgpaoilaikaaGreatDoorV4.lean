/-
  Layer 4: the program's vectors made of maps: made.
-/
import Derived.Test.YtgjlgpaoilaikaaGreatDoorV3c
import Derived.Test.YtgjlgpaoilaikaaGreatDoorM
import Derived.Test.YtgjlgpaoilaikaaGreatDoorIter
import Derived.WalkMore
namespace Go.Proofs.YtgjlgpaoilaikaaGreatDoor
open Go.RowKit Go.Maps Go.Sort

def encW (n : Int) : Value := .agg #[.int .i64 (wHi n), .int .u64 (wLo n)]
def ba (s : List UInt8) : ByteArray := ⟨⟨s⟩⟩
theorem nm_ba (s : List UInt8) : nm (ba s) = s := rfl
abbrev VM (w : World) (b n : Nat) (f : List UInt8 → Option Int) : Prop := MapIs 9 Lit.string encW w b n f
theorem keyed9 : Keyed Tryz.prog 9 := string_keyed Tryz.underlying9
theorem zeroW (w : World) : (zeroValue 41).run Tryz.prog w = .ok (.agg #[.int .i64 0, .int .u64 0]) w := by go_simp
theorem elimW (o : Option Int) : o.elim (.agg #[.int .i64 0, .int .u64 0]) encW = .agg #[.int .i64 (wHi (o.getD 0)), .int .u64 (wLo (o.getD 0))] := by
  cases o <;> rfl
theorem VM.look {w : World} {b n : Nat} {f : List UInt8 → Option Int} (h : VM w b n f) (s : ByteArray) (hs : s.size ≤ 9223372036854775807) {g : Int} (hg : (f (nm s)).getD 0 = g) :
    (Instr.lookup 55 (.map (some b)) (.string s) false).run Tryz.prog w = .ok (.agg #[.int .i64 (wHi g), .int .u64 (wLo g)]) w := by
  rw [MapIs.look h keyed9 Tryz.underlying55 (zeroW w) (Go.WideMaps.keyOf_string_mk Tryz.underlying9 hs), elimW]
  subst hg
  rfl

/-- the vector that has just what the map has -/
def vMade (f : List UInt8 → Option Int) (L : List (List UInt8)) : List Ent := L.flatMap fun s => if (f s).getD 0 = 0 then [] else [⟨ba s, (f s).getD 0⟩]

theorem ba_size (s : List UInt8) : (ba s).size = s.length := rfl
theorem SlAt.each1 {α : Type} {enc : α → Value} {w : World} {v : Value} {xs : List α} (h : SlAt (K1 enc) 1 w v xs) : ∃ A c, v = .slice A xs.length c ∧ xs.length ≤ 9223372036854775807 ∧ ∀ W, Below w.heap.size w W → ∀ j x, xs[j]? = some x → ∃ b off, A = some ⟨b, off, none⟩ ∧ W.cell? ⟨b, off + j, none⟩ = some (enc x) := by
  obtain ⟨A, c, rfl, h1, h2, h3⟩ := h
  refine ⟨A, c, rfl, by omega, fun W hW j x hj => ?_⟩
  obtain ⟨b, off, rfl, hlt, hc⟩ := h3 (by have := (List.getElem?_eq_some_iff.1 hj).1; omega)
  obtain ⟨cs, _, rfl, hcs⟩ := hc j x hj
  have := hcs 0 _ rfl
  rw [Nat.mul_one, Nat.add_zero] at this
  exact ⟨b, off, rfl, (hW.cell (p := ⟨b, _, none⟩) hlt).trans this⟩
theorem keys_any {w : World} {b n : Nat} {f : List UInt8 → Option Int} (h : VM w b n f) (hn : n ≤ 100000000) {L : List (List UInt8)} (hL : L.Nodup) (hm : ∀ x, x ∈ L ↔ (f x).isSome = true) :
    Calls Tryz.prog 53 #[.func (.func 75) #[] #[.pointer (some ⟨w.heap.size, 0, none⟩)]] (w.alloc (.cells #[.map (some b)] 55)) fun e w' =>
      ∃ v, e = .returned v ∧ SlAt (K1 (fun s => .string (ba s))) 1 w' v (L.mergeSort leB) ∧ Below w.heap.size w w' := by
  obtain ⟨D, h1, h2, h3⟩ := MapIs.sorted Tryz.underlying9 h hL hm
  have hsz := h1.size_le
  refine (callsIn_wide.1 (Tryz.slices_Sorted_keys_53_54 b n D RV w h1 (by simp only [maxLen]; omega) (by omega))).mono ?_
  rintro e w' ⟨v, ss, rfl, hp, hrow, _, hB⟩
  obtain ⟨e1, e2⟩ := h3 ss hp
  refine ⟨v, rfl, ?_, (Below.trans ((Below.refl w.heap.size w).alloc (Nat.le_refl _) (.cells #[.map (some b)] 55)) ⟨hB.os, hB.tape, hB.output, hB.size, fun i hi => hB.block i (by simp; omega)⟩)⟩
  rw [show (ss.mergeSort fun x y => decide (x ≤ y)) = L.mergeSort leB from e1] at hrow
  have hl : (L.mergeSort leB).length = ss.length := by rw [e2, List.length_mergeSort]
  rw [← hl] at hrow
  exact own_slAt1 (enc := fun s => .string (ba s)) hrow

section
attribute [local go_sem high] eq_wide
set_option maxRecDepth 100000 in
set_option maxHeartbeats 2000000 in
theorem made_any (w : World) (b n : Nat) (f : List UInt8 → Option Int) (h : VM w b n f) (hn : n ≤ 100000000) {L : List (List UInt8)} (hL : L.Nodup) (hm : ∀ x, x ∈ L ↔ (f x).isSome = true) (hl : L.length ≤ 100000000) (hs : ∀ x ∈ L, x.length ≤ 9223372036854775807) :
    Calls Tryz.prog 27 #[.map (some b)] w fun e w' => ∃ v, e = .returned v ∧ w'.ownsRow w.heap.size 45 3 v (vMade f (L.mergeSort leB)).length ((vMade f (L.mergeSort leB)).flatMap encE) ∧ Below w.heap.size w w' := by
  have HH := Lib.hid h
  obtain ⟨K, hK⟩ : ∃ K, L.mergeSort leB = K := ⟨_, rfl⟩
  have hKl : K.length ≤ 100000000 := by rw [← hK, List.length_mergeSort]; exact hl
  have hKs : ∀ x ∈ K, x.length ≤ 9223372036854775807 := fun x hx => hs x ((List.mergeSort_perm L leB).mem_iff.1 (by rw [hK]; exact hx))
  have HKE := Lib.hid hK
  have HL := Lib.hid hL
  have HM := Lib.hid hm
  have HKS := Lib.hid hKs
  rw [hK]
  clear hK hL hm hKs hs h
  go_enter Tryz.func27, Tryz.ntmps27
  go_wp2_with (first
    | go_step3
    | (go_at_call 54; refine (callsIn_wide.1 (Tryz.maps_Keys_54 (some b) _)).mono ?_; rintro e w1 ⟨rfl, rfl⟩)
    | (go_at_call 53; refine (keys_any HH.out hn HL.out HM.out).mono ?_; rintro e w2 ⟨v, rfl, hv, hB⟩; rw [HKE.out] at hv; obtain ⟨A, c, rfl, hlm, hcell⟩ := hv.each1; have HC := Lib.hid hcell; clear hcell hv))
  have hs2 := hB.size
  go_loopw [3, 10] (fun v i wr => ∃ (k : Nat) (out : List Ent), k ≤ K.length ∧ i = .int .i64 k ∧ out.length ≤ k ∧ Hid (vMade f K = out ++ vMade f (K.drop k)) ∧ wr.ownsRow w2.heap.size 45 3 v out.length (out.flatMap encE) ∧ Below w2.heap.size w2 wr) (fun _ i _ => K.length - (intOf i).toNat)
  case atStart => exact ⟨0, [], by omega, rfl, by simp, Lib.hid rfl, own_nil' _ _ _ _, Below.refl _ _⟩
  case round =>
    obtain ⟨k, out, hk, rfl, hol, hs, hown, hBr⟩ := hrel
    have hbs := hBr.size
    by_cases hlt : k < K.length
    · obtain ⟨x, hx⟩ : ∃ x, K[k]? = some x := ⟨_, List.getElem?_eq_getElem hlt⟩
      obtain ⟨b2, off, rfl, c0⟩ := HC.out wr hBr k x hx
      have hst : vMade f (K.drop k) = (if (f x).getD 0 = 0 then [] else [⟨ba x, (f x).getD 0⟩]) ++ vMade f (K.drop (k + 1)) := by
        obtain ⟨h, rfl⟩ := List.getElem?_eq_some_iff.1 hx
        rw [List.drop_eq_getElem_cons h]; rfl
      obtain ⟨g, hg⟩ : ∃ g, (f x).getD 0 = g := ⟨_, rfl⟩
      rw [hg] at hst
      have hbw := below_then' hB hs2 hBr
      have hlk := VM.look (HH.out.below hbw) (ba x) (HKS.out x (List.mem_of_getElem? hx)) hg
      have hz := zero_b g
      have HST := Lib.hid hst
      clear hst hg hx
      by_cases h0 : g = 0
      · have hz0 : (wHi g == 0 && (wLo g == 0)) = true := by rw [hz]; simp [h0]
        clear hz
        go_wp2_with fail
        refine ⟨⟨k + 1, out, by omega, by go_num, by omega, Lib.hid ?_, hown, hBr⟩, by simp [intOf]; omega⟩
        rw [hs.out, HST.out, if_pos h0]; rfl
      · have hz0 : (wHi g == 0 && (wLo g == 0)) = false := by rw [hz]; simp [h0]
        clear hz
        go_wp2_with ((with_reducible refine gate_app (.tmp 19) (.tmp 25) ?_); refine app_own (w0 := w2) w2.heap.size rfl (.tmp 19) (.tmp 25) 27 45 (.agg #[.string ⟨#[]⟩, .int .i64 0, .int .u64 0]) 3 32 rfl Tryz.underlying27 infoEnt rfl (by decide) (by decide) _ out.length _ [.string (ba x), .int .i64 (wHi g), .int .u64 (wLo g)] rfl rfl rfl (by simp [Value.oneCell']) hown hBr hbs (by omega) ?_; intro v1 w1 hown1 hB1 hg1 hloc hsz1)
        refine ⟨⟨k + 1, out ++ [⟨ba x, g⟩], by omega, by go_num, by simp; omega, Lib.hid ?_, ?_, hB1⟩, by simp [intOf]; omega⟩
        · rw [hs.out, HST.out, if_neg h0, List.append_assoc]
        · simp only [List.length_append, List.length_singleton, List.flatMap_append, List.flatMap_singleton]; exact hown1
    · have hd : K.drop k = [] := List.drop_eq_nil_of_le (by omega)
      have HD := Lib.hid hd
      clear hd
      go_wp2_with fail
      rw [Exit.noGoto_ret]
      go_ret
      have he : vMade f K = out := by rw [hs.out, HD.out]; simp [vMade]
      refine ⟨_, rfl, ?_, below_then' hB hs2 hBr⟩
      rw [he]
      exact own_weaken' hown hs2
end
end Go.Proofs.YtgjlgpaoilaikaaGreatDoor
