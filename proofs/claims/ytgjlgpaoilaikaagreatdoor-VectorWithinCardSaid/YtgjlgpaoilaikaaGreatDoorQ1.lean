/-
  Layer 3: quantities: the program's figures, Factor; the reference's Factor, Parse.
-/
import Derived.Test.YtgjlgpaoilaikaaGreatDoorQ0
import Derived.Test.YtgjlgpaoilaikaaGreatDoorBase3
namespace Go.Proofs.YtgjlgpaoilaikaaGreatDoor
open Go.RowKit

theorem nm_get (s : ByteArray) (i : Nat) (h : i < s.size) : (nm s)[i]? = some (s[i]'h) := by
  have h1 : i < (nm s).length := by unfold nm; rw [size_data]; exact h
  rw [List.getElem?_eq_getElem h1]
  exact congrArg some (get_data s i h)
theorem nm_length (s : ByteArray) : (nm s).length = s.size := size_data s
theorem nm_lt {s : ByteArray} {i : Nat} {c : UInt8} (h : (nm s)[i]? = some c) : ∃ hi : i < s.size, s[i]'hi = c := by
  have h1 := (List.getElem?_eq_some_iff.1 h).1
  rw [nm_length] at h1
  rw [nm_get s i h1] at h
  exact ⟨h1, by simpa using h⟩
theorem isDig_iff (c : UInt8) : isDig c = true ↔ 48 ≤ (c.toNat : Int) ∧ (c.toNat : Int) ≤ 57 := by simp [isDig]; omega
theorem isDig_no (c : UInt8) : isDig c = false ↔ (c.toNat : Int) < 48 ∨ 57 < (c.toNat : Int) := by
  rw [← Bool.not_eq_true, isDig_iff]; omega

theorem figures_any (s : ByteArray) (w : World) (hs : s.size ≤ 9223372036854775807) :
    Calls Tryz.prog 57 #[.string s] w fun e w' => e = .returned (.int .i64 (figs (nm s))) ∧ w = w' := by
  go_enter Tryz.func57, Tryz.ntmps57
  go_wp2_with go_step3
  go_loop [3] (fun i => ∃ k : Nat, k ≤ s.size ∧ i = .int .i64 k ∧ Hid (∀ j c, j < k → (nm s)[j]? = some c → isDig c = true)) (fun i => s.size - (intOf i).toNat)
  case atStart => exact ⟨0, by omega, rfl, Lib.hid fun j c hj => by omega⟩
  case round =>
    obtain ⟨k, hk, rfl, hb⟩ := hrel
    by_cases hlt : k < s.size
    · have HX := Lib.hid (nm_get s k hlt)
      go_wp2_with go_step3
      all_goals first
        | (try rw [Exit.noGoto_ret]
           go_ret
           refine ⟨ret_int ?_, rfl⟩
           rw [figs_at (k := k) (by rw [nm_length]; omega) hb.out (fun c hc => by rw [HX.out] at hc; cases hc; rw [isDig_no]; omega)])
        | (refine ⟨⟨k + 1, by omega, by go_num, Lib.hid fun j c hj hc => ?_⟩, by simp [intOf]; omega⟩
           rcases Nat.lt_or_ge j k with h | h
           · exact hb.out j c h hc
           · obtain rfl : j = k := by omega
             rw [HX.out] at hc
             cases hc
             rw [isDig_iff]
             omega)
    · go_wp2_with go_step3
      try rw [Exit.noGoto_ret]
      go_ret
      refine ⟨ret_int ?_, rfl⟩
      rw [figs_at (k := k) (by rw [nm_length]; omega) hb.out (fun c hc => by obtain ⟨h, _⟩ := nm_lt hc; omega)]

theorem rfactor_any (s : ByteArray) (w : World) (hs : s.size ≤ 9223372036854775807) :
    Calls Tryz.prog 61 #[.string s] w fun e w' => e = .returned (.int .i64 (qFactor (nm s))) ∧ w = w' := by
  go_enter Tryz.func61, Tryz.ntmps61
  go_wp2
  all_goals
    go_ret
    refine ⟨ret_int ?_, rfl⟩
    simp only [nm_toList, beq_iff_eq, beq_eq_false_iff_ne, ne_eq, List.isEmpty_iff, List.isEmpty_eq_false_iff] at *
    simp [qFactor, *]
/-! ### the program's table -/
def sufs : List (List UInt8 × Int) := [([], 1), ([107], 1000), ([75, 105], 1024), ([77], 1000000), ([77, 105], 1048576), ([71], 1000000000), ([71, 105], 1073741824), ([84], 1000000000000), ([84, 105], 1099511627776)]
def sufN (k : Nat) : ByteArray := ⟨((sufs.getD k ([], 0)).1).toArray⟩
def sufF (k : Nat) : Int := (sufs.getD k ([], 0)).2
def sufC : Array Value := #[.string (sufN 0), .int .i64 (sufF 0), .string (sufN 1), .int .i64 (sufF 1), .string (sufN 2), .int .i64 (sufF 2), .string (sufN 3), .int .i64 (sufF 3), .string (sufN 4), .int .i64 (sufF 4), .string (sufN 5), .int .i64 (sufF 5), .string (sufN 6), .int .i64 (sufF 6), .string (sufN 7), .int .i64 (sufF 7), .string (sufN 8), .int .i64 (sufF 8)]
/-- the package's variables that are read hold what the program's text lays -/
def Glob (w : World) : Prop := (∃ t, w.heap[0]? = some (.cells sufC t (0, 0))) ∧ (∃ m, w.cell? ⟨3, 0, none⟩ = some (.int .i64 m)) ∧ ∃ te pe, w.cell? ⟨5, 0, none⟩ = some (.iface te pe)
theorem Glob.below {w w1 : World} (h : Glob w) (hb : Below w.heap.size w w1) : Glob w1 := by
  obtain ⟨⟨t, h1⟩, ⟨m, h2⟩, te, pe, h3⟩ := h
  exact ⟨⟨t, blk_below' h1 hb⟩, ⟨m, keep_cell hb h2⟩, te, pe, keep_cell hb h3⟩
theorem suf_index (w : World) : ∀ k : Nat, k < 9 → (Instr.index 114 (.agg sufC) (.int .i64 k)).run Tryz.prog w = .ok (.agg #[.string (sufN k), .int .i64 (sufF k)]) w
  | 0, _ => by kernel_rfl
  | 1, _ => by kernel_rfl
  | 2, _ => by kernel_rfl
  | 3, _ => by kernel_rfl
  | 4, _ => by kernel_rfl
  | 5, _ => by kernel_rfl
  | 6, _ => by kernel_rfl
  | 7, _ => by kernel_rfl
  | 8, _ => by kernel_rfl
  | k + 9, h => absurd h (by omega)
theorem suf_hit (s : List UInt8) : ∀ k : Nat, k < 9 → s = nm (sufN k) → qFactor s = sufF k
  | 0, _, h => by subst h; decide
  | 1, _, h => by subst h; decide
  | 2, _, h => by subst h; decide
  | 3, _, h => by subst h; decide
  | 4, _, h => by subst h; decide
  | 5, _, h => by subst h; decide
  | 6, _, h => by subst h; decide
  | 7, _, h => by subst h; decide
  | 8, _, h => by subst h; decide
  | k + 9, h, _ => absurd h (by omega)
theorem suf_miss (s : List UInt8) (h : ∀ k, k < 9 → s ≠ nm (sufN k)) : qFactor s = 0 := by
  have h0 : s ≠ [] := h 0 (by omega)
  have h1 : s ≠ [107] := h 1 (by omega)
  have h2 : s ≠ [75, 105] := h 2 (by omega)
  have h3 : s ≠ [77] := h 3 (by omega)
  have h4 : s ≠ [77, 105] := h 4 (by omega)
  have h5 : s ≠ [71] := h 5 (by omega)
  have h6 : s ≠ [71, 105] := h 6 (by omega)
  have h7 : s ≠ [84] := h 7 (by omega)
  have h8 : s ≠ [84, 105] := h 8 (by omega)
  simp [qFactor, h0, h1, h2, h3, h4, h5, h6, h7, h8]
theorem sufC_size : sufC.size = 18 := rfl
set_option maxRecDepth 100000 in
theorem factor_any (s : ByteArray) (w : World) (hs : s.size ≤ 9223372036854775807) (hg : Glob w) :
    Calls Tryz.prog 58 #[.string s] w fun e w' => e = .returned (.int .i64 (qFactor (nm s))) ∧ Below w.heap.size w w' := by
  obtain ⟨⟨t, hgt⟩, _⟩ := hg
  have HG := Lib.hid hgt
  have HI := Lib.hid suf_index
  clear hgt
  go_enter Tryz.func58, Tryz.ntmps58
  go_wp2_with ((with_reducible refine wpList_load_row rfl 114 (.global 0) rfl 0 rfl t sufC (0, 0) _ HG.out Tryz.underlying114 rfl (by kernel_rfl) ?_))
  go_loopw [6] (fun i wr => ∃ k : Nat, k ≤ 9 ∧ i = .int .i64 k ∧ Hid (∀ j, j < k → nm s ≠ nm (sufN j)) ∧ Below w.heap.size w wr) (fun i _ => 9 - (intOf i).toNat)
  case atStart => exact ⟨0, by omega, rfl, Lib.hid fun j hj => by omega, Below.refl _ _⟩
  case round =>
    obtain ⟨k, hk, rfl, hb, hB⟩ := hrel
    have hbs := hB.size
    by_cases hlt : k < 9
    · have hix := fun W => HI.out W k hlt
      obtain ⟨N, hN⟩ : ∃ N, sufN k = N := ⟨_, rfl⟩
      obtain ⟨F, hF⟩ : ∃ F, sufF k = F := ⟨_, rfl⟩
      rw [hN, hF] at hix
      have HN := Lib.hid hN
      have HF := Lib.hid hF
      clear hN hF
      go_wp2_with fail
      · have he : (N.toList == s.toList) = true := by assumption
        go_ret
        refine ⟨ret_int ?_, hB.alloc hbs _⟩
        rw [← HF.out]
        refine (suf_hit _ k hlt ?_).symm
        rw [HN.out, ← nm_toList, ← nm_toList]
        exact (by simpa using he : N.toList = s.toList).symm
      · have he : (N.toList == s.toList) = false := by assumption
        refine ⟨⟨k + 1, by omega, by go_num, Lib.hid fun j hj => ?_, hB.alloc hbs _⟩, by simp [intOf]; omega⟩
        rcases Nat.lt_or_ge j k with h | h
        · exact hb.out j h
        · obtain rfl : j = k := by omega
          rw [HN.out, ← nm_toList, ← nm_toList]
          exact fun e => by simp [e] at he
    · go_wp2_with fail
      go_ret
      refine ⟨ret_int ?_, hB⟩
      rw [suf_miss _ fun j hj => hb.out j (by omega)]
end Go.Proofs.YtgjlgpaoilaikaaGreatDoor
