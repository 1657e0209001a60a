/-
  Layer 1: labels: label.Right and the reference's Right tell lblB; the reference's Before is the order of strings.
-/
import Derived.Test.YtgjlgpaoilaikaaGreatDoorBase
namespace Go.Proofs.YtgjlgpaoilaikaaGreatDoor
open Go.RowKit

def sgnB (c : Int) : Bool := decide (97 ≤ c) && decide (c ≤ 122) || decide (48 ≤ c) && decide (c ≤ 57) || decide (c = 45)

/-- may a text be a label? -/
def lblB (s : ByteArray) : Bool := decide (1 ≤ s.size) && decide (s.size ≤ 24) && (List.range s.size).all (fun i => sgnB (bt s i)) && decide (bt s 0 ≠ 45) && decide (bt s (s.size - 1) ≠ 45)

def lblUpto (s : ByteArray) (pos : Nat) : Prop := ∀ i, i < pos → i < s.size → sgnB (bt s i) = true

theorem lbl_no {s : ByteArray} (pos : Nat) (h : pos < s.size) (hn : sgnB (bt s pos) = false) : lblB s = false := by
  have : (List.range s.size).all (fun i => sgnB (bt s i)) = false := by
    rw [List.all_eq_false]
    exact ⟨pos, List.mem_range.2 h, by simp [hn]⟩
  simp [lblB, this]
theorem lbl_yes {s : ByteArray} {pos : Nat} (h : lblUpto s pos) (hp : ¬ pos < s.size) : lblB s = (decide (1 ≤ s.size) && decide (s.size ≤ 24) && decide (bt s 0 ≠ 45) && decide (bt s (s.size - 1) ≠ 45)) := by
  have : (List.range s.size).all (fun i => sgnB (bt s i)) = true := by
    rw [List.all_eq_true]
    intro i hi
    have := List.mem_range.1 hi
    exact h i (by omega) this
  simp [lblB, this]

set_option maxHeartbeats 400000 in
theorem sign_any (c : Int) (w : World) (hc : 0 ≤ c) :
    Calls Tryz.prog 51 #[.int .i32 c] w fun e w' => e = .returned (.bool (sgnB c)) ∧ w = w' := by
  go_enter Tryz.func51, Tryz.ntmps51
  go_wp2
  all_goals (go_ret; exact ⟨ret_bool (by simp only [sgnB]; rw [Bool.eq_iff_iff]; simp; omega), rfl⟩)

theorem sgn_high (c : Int) (h : 128 ≤ c) : sgnB c = false := by
  simp only [sgnB]; rw [Bool.eq_false_iff]; simp; omega

theorem below_iter (w : World) (s : ByteArray) (pos : Nat) : Below w.heap.size w (w.iter s pos) := (Below.refl _ _).alloc (Nat.le_refl _) _

set_option maxHeartbeats 400000 in
theorem right_any (s : ByteArray) (w : World) (hs : s.size ≤ 9223372036854775807) :
    Calls Tryz.prog 24 #[.string s] w fun e w' => e = .returned (.bool (lblB s)) ∧ Below w.heap.size w w' := by
  go_enter Tryz.func24, Tryz.ntmps24
  go_wp2_with fail
  go_loopw [2] (fun n w' => ∃ (pos : Nat), w' = w.iter s pos ∧ n = .bool false ∧ lblUpto s pos) (fun _ w' => s.size - w'.iterPos w.heap.size)
  case atStart => exact ⟨0, rfl, rfl, fun i hi => by omega⟩
  case round =>
    obtain ⟨pos, rfl, rfl, hup⟩ := hrel
    have HU := Lib.hid hup
    clear hup
    by_cases hp : pos < s.size
    · have hnx : ∀ ty, (Instr.next (.pointer (some ⟨w.heap.size, 0, none⟩)) true ty).run Tryz.prog (w.iter s pos) = _ := fun ty => run_next_any w s pos ty hp
      have hwd := width_pos s pos hp
      have hsg : sgnB ((Utf8.decode s pos).1 : Int) = sgnB (bt s pos) ∧ (sgnB (bt s pos) = true → (Utf8.decode s pos).2 = 1) := by
        by_cases ha : (s[pos]'hp).toNat < 128
        · rw [decode_ascii s pos hp ha, ← bt_at s pos hp]; exact ⟨rfl, fun _ => rfl⟩
        · have h1 := (decode_high s pos hp (by omega)).1
          have h2 := sgn_high ((Utf8.decode s pos).1 : Int) (by omega)
          have h3 := sgn_high (bt s pos) (by rw [← bt_at s pos hp]; omega)
          rw [h2, h3]; exact ⟨rfl, fun h => by cases h⟩
      have HS := Lib.hid hsg
      clear hsg
      by_cases hb : sgnB ((Utf8.decode s pos).1 : Int) = true
      · go_wp2_with (go_at_call 51; refine (sign_any _ _ (by omega)).mono ?_; rintro e w' ⟨rfl, rfl⟩)
        go_roundw
        case rel =>
          have hsb : sgnB (bt s pos) = true := by rw [← HS.out.1]; exact hb
          refine ⟨_, rfl, rfl, ?_⟩
          intro i hi hi'
          rw [HS.out.2 hsb] at hi
          rcases Nat.lt_or_ge i pos with h | h
          · exact HU.out i h hi'
          · obtain rfl : i = pos := by omega
            exact hsb
        case measure => simp; omega
      · have hb' : sgnB ((Utf8.decode s pos).1 : Int) = false := by simpa using hb
        clear hb
        go_wp2_with (go_at_call 51; refine (sign_any _ _ (by omega)).mono ?_; rintro e w' ⟨rfl, rfl⟩)
        go_ret
        exact ⟨ret_bool (lbl_no pos hp (by rw [← HS.out.1]; exact hb')).symm, below_iter _ _ _⟩
    · have hnx : ∀ ty, (Instr.next (.pointer (some ⟨w.heap.size, 0, none⟩)) true ty).run Tryz.prog (w.iter s pos) = _ := fun ty => run_next_end w s pos ty hp
      go_wp2
      all_goals (go_ret; refine ⟨ret_bool ?_, below_iter _ _ _⟩; rw [lbl_yes HU.out hp])
      · rw [← bt_at s 0 (by omega)]; simp; omega
      · rw [← bt_at s 0 (by omega), ← bt_at s (s.size - 1) (by omega), Bool.eq_iff_iff]; simp; omega
      · simp; omega
      · simp; omega

theorem sgn_split (c : Int) : (sgnB c = true ∧ (97 ≤ c ∧ c ≤ 122 ∨ 48 ≤ c ∧ c ≤ 57 ∨ c = 45)) ∨ (sgnB c = false ∧ ¬ (97 ≤ c ∧ c ≤ 122) ∧ ¬ (48 ≤ c ∧ c ≤ 57) ∧ ¬ c = 45) := by
  cases h : sgnB c <;> simp [sgnB] at h ⊢ <;> omega

set_option maxHeartbeats 400000 in
theorem rright_any (s : ByteArray) (w : World) (hs : s.size ≤ 9223372036854775807) :
    Calls Tryz.prog 28 #[.string s] w fun e w' => e = .returned (.bool (lblB s)) ∧ w = w' := by
  by_cases hsz : 1 ≤ s.size ∧ s.size ≤ 24
  · obtain ⟨h1, h2⟩ := hsz
    go_enter Tryz.func28, Tryz.ntmps28
    go_wp2
    all_goals first | (exfalso; omega) | skip
    go_loop [4] (fun i => ∃ pos : Nat, i = .int .i64 pos ∧ pos ≤ s.size ∧ Hid (lblUpto s pos)) (fun i => s.size - (intOf i).toNat)
    case atStart => exact ⟨0, rfl, by omega, Lib.hid (fun i hi => by omega)⟩
    case round =>
      obtain ⟨pos, rfl, hle, hup⟩ := hrel
      by_cases hp : pos < s.size
      · have hsp := sgn_split (s[pos]'hp).toNat
        have HS := Lib.hid hsp
        clear hsp
        go_wp2
        all_goals
          have h3 := HS.out
          clear HS
        all_goals first
          | (go_ret
             refine ⟨ret_bool (lbl_no pos hp ?_).symm, rfl⟩
             rw [← bt_at s pos hp]
             generalize ((s[pos]'hp).toNat : Int) = c at *
             rcases h3 with h3 | h3
             · exfalso; simp at *; omega
             · exact h3.1)
          | (refine ⟨⟨pos + 1, by go_num, by omega, Lib.hid ?_⟩, by simp [intOf]; omega⟩
             intro i hi hi'
             rcases Nat.lt_or_ge i pos with h | h
             · exact hup.out i h hi'
             · obtain rfl : i = pos := by omega
               rw [← bt_at s i hp]
               generalize ((s[i]'hp).toNat : Int) = c at *
               rcases h3 with h3 | h3
               · exact h3.1
               · exfalso; simp at *; omega)
      · go_wp2
        all_goals (go_ret; refine ⟨ret_bool ?_, rfl⟩; rw [lbl_yes hup.out hp])
        · rw [← bt_at s 0 (by omega)]; simp; omega
        · rw [← bt_at s 0 (by omega), ← bt_at s (s.size - 1) (by omega), Bool.eq_iff_iff]; simp; omega
  · go_enter Tryz.func28, Tryz.ntmps28
    go_wp2
    all_goals first | (go_ret; exact ⟨ret_bool (by simp [lblB]; omega), rfl⟩) | (exfalso; omega)

/-! ### the order of strings -/
theorem less_at : ∀ (p : Nat) (x y : List UInt8), x.take p = y.take p → ∀ (hx : p < x.length) (hy : p < y.length), x[p] ≠ y[p] → Op.bytesLess x y = decide (x[p] < y[p])
  | 0, a :: x, b :: y, _, _, _, hn => by
    have hn' : (a == b) = false := by simpa using hn
    simp [Op.bytesLess, hn']
  | p + 1, a :: x, b :: y, h, hx, hy, hn => by
    simp only [List.take_succ_cons, List.cons.injEq] at h
    obtain ⟨rfl, h⟩ := h
    have ih := less_at p x y h (by simpa using hx) (by simpa using hy) (by simpa using hn)
    simp only [Op.bytesLess, List.getElem_cons_succ]
    rw [ih]
    simp
  | _, [], _, _, hx, _, _ => absurd hx (by simp)
  | _, _ :: _, [], _, _, hy, _ => absurd hy (by simp)
theorem less_end : ∀ (p : Nat) (x y : List UInt8), x.take p = y.take p → p = x.length ∨ p = y.length → p ≤ x.length → p ≤ y.length → Op.bytesLess x y = decide (x.length < y.length)
  | 0, [], [], _, _, _, _ => by simp [Op.bytesLess]
  | 0, [], b :: y, _, _, _, _ => by simp [Op.bytesLess]
  | 0, a :: x, [], _, _, _, _ => by simp [Op.bytesLess]
  | 0, a :: x, b :: y, _, h, _, _ => by simp at h
  | p + 1, a :: x, b :: y, h, he, hx, hy => by
    simp only [List.take_succ_cons, List.cons.injEq] at h
    obtain ⟨rfl, h⟩ := h
    have ih := less_end p x y h (by simpa using he) (by simpa using hx) (by simpa using hy)
    simp only [Op.bytesLess, ih]
    simp
  | p + 1, [], _, _, _, hx, _ => absurd hx (by simp)
  | p + 1, _ :: _, [], _, _, _, hy => absurd hy (by simp)

theorem size_data (a : ByteArray) : a.data.toList.length = a.size := by rw [Array.length_toList]; rfl
theorem get_data (a : ByteArray) (i : Nat) (h : i < a.size) : a.data.toList[i]'(by rw [size_data]; exact h) = a[i]'h := by simp; rfl

set_option maxHeartbeats 400000 in
theorem before_any (a b : ByteArray) (w : World) (ha : a.size ≤ 9223372036854775807) (hb : b.size ≤ 9223372036854775807) :
    Calls Tryz.prog 36 #[.string a, .string b] w fun e w' => e = .returned (.bool (Op.bytesLess a.toList b.toList)) ∧ ∃ n, w' = w.drewN n := by
  go_enter Tryz.func36, Tryz.ntmps36
  go_wp2
  go_loopw [5] (fun i wr => ∃ pos : Nat, i = .int .i64 pos ∧ pos ≤ a.size ∧ pos ≤ b.size ∧ (∃ n, wr = w.drewN n) ∧ Hid (a.data.toList.take pos = b.data.toList.take pos)) (fun i _ => a.size - (intOf i).toNat)
  case atStart => exact ⟨0, rfl, by omega, by omega, ⟨0, rfl⟩, Lib.hid rfl⟩
  case round =>
    obtain ⟨pos, rfl, hla, hlb, ⟨n, rfl⟩, hal⟩ := hrel
    by_cases hpa : pos < a.size
    · by_cases hpb : pos < b.size
      · have hxa := get_data a pos hpa
        have hxb := get_data b pos hpb
        have HA := Lib.hid hxa
        have HB := Lib.hid hxb
        clear hxa hxb
        go_wp2
        go_quiet (fail)
        go_wp2
        · go_quiet (fail)
          go_wp2
          go_ret
          refine ⟨ret_bool ?_, ⟨_, by rw [World.drewN_drewN, World.drewN_drewN]⟩⟩
          have hne : (((a[pos]'hpa).toNat : Int) != ((b[pos]'hpb).toNat : Int)) = true := by assumption
          have hn2 : a[pos] ≠ b[pos] := by
            intro e
            simp [e] at hne
          rw [ByteArray.toList_eq, ByteArray.toList_eq, less_at pos _ _ hal.out (by rw [size_data]; exact hpa) (by rw [size_data]; exact hpb) (by rw [HA.out, HB.out]; exact hn2), HA.out, HB.out]
          rw [Bool.eq_iff_iff]
          simp [UInt8.lt_iff_toNat_lt]
        · rename_i heq
          refine ⟨⟨pos + 1, by go_num, by omega, by omega, ⟨_, rfl⟩, Lib.hid ?_⟩, by simp [intOf]; omega⟩
          have he : a[pos] = b[pos] := by
            simp only [bne_eq_false_iff_eq, Int.natCast_inj] at heq
            exact UInt8.toNat_inj.1 heq
          rw [List.take_succ_eq_append_getElem (by rw [size_data]; exact hpa), List.take_succ_eq_append_getElem (by rw [size_data]; exact hpb), hal.out, HA.out, HB.out, he]
      · go_wp2
        go_ret
        refine ⟨ret_bool ?_, n, rfl⟩
        rw [ByteArray.toList_eq, ByteArray.toList_eq, less_end pos _ _ hal.out (by rw [size_data, size_data]; omega) (by rw [size_data]; omega) (by rw [size_data]; omega), size_data, size_data]
    · go_wp2
      go_ret
      refine ⟨ret_bool ?_, n, rfl⟩
      rw [ByteArray.toList_eq, ByteArray.toList_eq, less_end pos _ _ hal.out (by rw [size_data, size_data]; omega) (by rw [size_data]; omega) (by rw [size_data]; omega), size_data, size_data]
end Go.Proofs.YtgjlgpaoilaikaaGreatDoor
