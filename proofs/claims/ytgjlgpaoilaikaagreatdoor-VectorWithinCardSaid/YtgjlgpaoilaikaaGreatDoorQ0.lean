/-
  Plain: quantities and resources as texts: figures, factors, pieces.
-/
import Derived.Test.YtgjlgpaoilaikaaGreatDoorV4
import Derived.Lib.ParseIntB
import Derived.Lib.Split
namespace Go.Proofs.YtgjlgpaoilaikaaGreatDoor
open Go.RowKit Go.Maps Go.Sort
/-! ### quantities -/
def isDig (c : UInt8) : Bool := decide (48 ≤ c.toNat) && decide (c.toNat ≤ 57)
def figs (l : List UInt8) : Nat := (l.takeWhile isDig).length
theorem figs_at : ∀ {l : List UInt8} {k : Nat}, k ≤ l.length → (∀ j c, j < k → l[j]? = some c → isDig c = true) → (∀ c, l[k]? = some c → isDig c = false) → figs l = k
  | [], k, hk, _, _ => by
    have : k = 0 := by simpa using hk
    subst this
    rfl
  | c :: l, 0, _, _, he => by
    have := he c rfl
    simp [figs, this]
  | c :: l, k + 1, hk, hb, he => by
    have h0 := hb 0 c (by omega) rfl
    have ih := figs_at (l := l) (k := k) (by simpa using hk) (fun j d hj hd => hb (j + 1) d (by omega) (by simpa using hd)) (fun d hd => he d (by simpa using hd))
    simp only [figs, List.takeWhile_cons, h0, if_true, List.length_cons] at ih ⊢
    rw [ih]
theorem figs_le (l : List UInt8) : figs l ≤ l.length := (List.takeWhile_prefix isDig).length_le
theorem figs_dig (l : List UInt8) (j : Nat) (hj : j < figs l) : ∃ c, l[j]? = some c ∧ isDig c = true := by
  have h1 : l.takeWhile isDig <+: l := List.takeWhile_prefix isDig
  obtain ⟨t, ht⟩ := h1
  refine ⟨(l.takeWhile isDig)[j]'hj, ?_, ?_⟩
  · conv => lhs; rw [← ht]
    rw [List.getElem?_append_left hj, List.getElem?_eq_getElem hj]
  · exact List.all_eq_true.1 (List.all_takeWhile (p := isDig) (l := l)) _ (List.getElem_mem hj)
def qFactor (l : List UInt8) : Int :=
  if l = [] then 1 else if l = [107] then 1000 else if l = [75, 105] then 1024 else if l = [77] then 1000000 else if l = [77, 105] then 1048576 else if l = [71] then 1000000000
  else if l = [71, 105] then 1073741824 else if l = [84] then 1000000000000 else if l = [84, 105] then 1099511627776 else 0
theorem qFactor_range (l : List UInt8) : 0 ≤ qFactor l ∧ qFactor l ≤ 1099511627776 := by
  unfold qFactor
  repeat' split
  all_goals omega
def decV (acc : Nat) (l : List UInt8) : Nat := l.foldl (fun a c => a * 10 + (c.toNat - 48)) acc
theorem decV_ge : ∀ (l : List UInt8) (acc : Nat), acc ≤ decV acc l
  | [], acc => Nat.le_refl _
  | c :: l, acc => by
    have := decV_ge l (acc * 10 + (c.toNat - 48))
    simp only [decV, List.foldl_cons] at this ⊢
    omega
theorem decV_snoc (l : List UInt8) (c : UInt8) (acc : Nat) : decV acc (l ++ [c]) = decV acc l * 10 + (c.toNat - 48) := by simp [decV]
def qParse (l : List UInt8) : Int × Int :=
  if figs l = 0 ∨ qFactor (l.drop (figs l)) = 0 ∨ (l.head? = some 48 ∧ 1 < figs l) then (0, 2)
  else if 9223372036854775807 < (decV 0 (l.take (figs l)) : Int) * qFactor (l.drop (figs l)) then (0, 3) else ((decV 0 (l.take (figs l)) : Int) * qFactor (l.drop (figs l)), 0)
theorem parseM : ∀ (l : List UInt8) (acc : Nat), (∀ c ∈ l, isDig c = true) → acc ≤ 18446744073709551615 →
    Lib.parseUintM 18446744073709551615 acc l = if decV acc l ≤ 18446744073709551615 then .ok (decV acc l) else .range
  | [], acc, _, h => by simp [Lib.parseUintM, decV, h]
  | c :: l, acc, hd, h => by
    have hc := hd c (by simp)
    have hc2 : 48 ≤ c.toNat ∧ c.toNat ≤ 57 := by simpa [isDig] using hc
    have hge := decV_ge l (acc * 10 + (c.toNat - 48))
    have he : decV acc (c :: l) = decV (acc * 10 + (c.toNat - 48)) l := rfl
    rw [Lib.parseUintM, if_pos hc2, he]
    by_cases h1 : 1844674407370955162 ≤ acc
    · rw [if_pos h1, if_neg (by omega)]
    · rw [if_neg h1]
      by_cases h2 : 18446744073709551615 < acc * 10 + (c.toNat - 48)
      · rw [if_pos h2, if_neg (by omega)]
      · rw [if_neg h2, parseM l _ (fun d hdd => hd d (by simp [hdd])) (by omega)]
theorem parse64 (l : List UInt8) (h : 0 < figs l) : Lib.parseUintB 64 (l.take (figs l)) = if decV 0 (l.take (figs l)) ≤ 18446744073709551615 then .ok (decV 0 (l.take (figs l))) else .range := by
  have hne : l.take (figs l) ≠ [] := by
    intro e
    have h1 := congrArg List.length e
    have h2 := figs_le l
    rw [List.length_take, List.length_nil] at h1
    omega
  unfold Lib.parseUintB
  rw [if_neg hne, show (2 ^ 64 - 1 : Nat) = 18446744073709551615 from rfl]
  refine parseM _ _ (fun c hc => ?_) (by omega)
  obtain ⟨j, hj, rfl⟩ := List.getElem_of_mem hc
  have hj2 : j < figs l := by rw [List.length_take] at hj; omega
  obtain ⟨d, hd, hdd⟩ := figs_dig l j hj2
  rw [List.getElem_take]
  rw [List.getElem?_eq_getElem (by have := figs_le l; omega)] at hd
  cases hd
  exact hdd
/-! ### pieces -/
def piece (c : UInt8) (l : List UInt8) : List UInt8 := l.takeWhile (· != c)
def splitC (c : UInt8) : List UInt8 → List (List UInt8)
  | [] => [[]]
  | b :: l => if b = c then [] :: splitC c l else match splitC c l with
    | p :: ps => (b :: p) :: ps
    | [] => [[b]]
theorem splitC_ne (c : UInt8) : ∀ l, splitC c l ≠ []
  | [] => by simp [splitC]
  | b :: l => by
    unfold splitC
    split
    · simp
    · cases h : splitC c l <;> simp
theorem piece_le (c : UInt8) (l : List UInt8) : (piece c l).length ≤ l.length := (List.takeWhile_prefix _).length_le
theorem piece_take (c : UInt8) (l : List UInt8) : l.take (piece c l).length = piece c l := (List.prefix_iff_eq_take.1 (List.takeWhile_prefix _)).symm
theorem piece_at (c : UInt8) : ∀ {l : List UInt8} {k : Nat}, k ≤ l.length → (∀ j d, j < k → l[j]? = some d → d ≠ c) → (∀ d, l[k]? = some d → d = c) → (piece c l).length = k
  | [], k, hk, _, _ => by
    have : k = 0 := by simpa using hk
    subst this
    rfl
  | b :: l, 0, _, _, he => by
    have := he b rfl
    simp [piece, this]
  | b :: l, k + 1, hk, hb, he => by
    have h0 := hb 0 b (by omega) rfl
    have ih := piece_at c (l := l) (k := k) (by simpa using hk) (fun j d hj hd => hb (j + 1) d (by omega) (by simpa using hd)) (fun d hd => he d (by simpa using hd))
    have h1 : (b != c) = true := by simpa using h0
    simp only [piece, List.takeWhile_cons, h1, if_true, List.length_cons] at ih ⊢
    rw [ih]
theorem splitC_eq (c : UInt8) : ∀ l : List UInt8, splitC c l = if (piece c l).length = l.length then [l] else piece c l :: splitC c (l.drop ((piece c l).length + 1))
  | [] => by simp [splitC, piece]
  | b :: l => by
    by_cases hb : b = c
    · have hp : piece c (b :: l) = [] := by simp [piece, hb]
      rw [hp, splitC, if_pos hb]
      simp
    · have h1 : (b != c) = true := by simpa using hb
      have hp : piece c (b :: l) = b :: piece c l := by simp [piece, h1]
      rw [hp, splitC, if_neg hb, splitC_eq c l]
      by_cases hl : (piece c l).length = l.length
      · rw [if_pos hl, if_pos (by simp [hl])]
      · rw [if_neg hl, if_neg (by simp [hl])]
        simp
theorem index_one (c : UInt8) : ∀ l : List UInt8, Lib.index l [c] = if (piece c l).length = l.length then -1 else ((piece c l).length : Int)
  | [] => by simp [Lib.index, piece]
  | b :: l => by
    rw [Lib.index]
    by_cases hb : b = c
    · have hp : piece c (b :: l) = [] := by simp [piece, hb]
      rw [hp]
      simp [hb]
    · have h1 : (b != c) = true := by simpa using hb
      have hp : piece c (b :: l) = b :: piece c l := by simp [piece, h1]
      have h2 : List.isPrefixOf [c] (b :: l) = false := by
        simp only [List.isPrefixOf, Bool.and_true, beq_eq_false_iff_ne, ne_eq]
        exact fun e => hb e.symm
      rw [h2, hp, index_one c l]
      by_cases hl : (piece c l).length = l.length
      · simp [hl]
      · simp only [if_neg hl, Bool.false_eq_true, if_false, List.length_cons, Nat.add_right_cancel_iff]
        rw [if_neg (by simp only [beq_iff_eq]; omega)]
        omega
theorem cut_one (c : UInt8) (l : List UInt8) : Lib.cut l [c] = if (piece c l).length = l.length then (l, [], false) else (piece c l, l.drop ((piece c l).length + 1), true) := by
  unfold Lib.cut
  rw [index_one]
  by_cases hl : (piece c l).length = l.length
  · rw [if_pos hl, if_pos hl]; rfl
  · rw [if_neg hl, if_neg hl, if_pos (by omega), Int.toNat_natCast, piece_take]
    rfl
theorem splitK_one (c : UInt8) : ∀ (k : Nat) (l : List UInt8), Lib.count l [c] = k → Lib.splitK [c] 0 k l = splitC c l
  | 0, l, h => by
    rw [Lib.splitK, splitC_eq]
    by_cases hl : (piece c l).length = l.length
    · rw [if_pos hl]
    · have := Lib.count_hit (s := l) (sub := [c]) (i := (piece c l).length) (by simp) (by rw [index_one, if_neg hl])
      omega
  | k + 1, l, h => by
    rw [Lib.splitK, splitC_eq]
    by_cases hl : (piece c l).length = l.length
    · have := Lib.count_miss (s := l) (sub := [c]) (by rw [index_one, if_pos hl])
      omega
    · have h1 := Lib.count_hit (s := l) (sub := [c]) (i := (piece c l).length) (by simp) (by rw [index_one, if_neg hl])
      rw [index_one, if_neg hl, if_neg hl]
      have h2 : ((((piece c l).length : Int)) == -1) = false := by simp only [beq_eq_false_iff_ne]; omega
      rw [h2]
      simp only [Bool.false_eq_true, if_false, Int.toNat_natCast, Nat.add_zero, piece_take, List.length_singleton] at h1 ⊢
      rw [splitK_one c k _ (by omega)]
theorem splitB_one (c : UInt8) (s : ByteArray) : (Lib.splitB ⟨#[c]⟩ 0 (Lib.countB s ⟨#[c]⟩) s).map nm = splitC c (nm s) := by
  have h := Lib.splitB_data ⟨#[c]⟩ 0 (Lib.countB s ⟨#[c]⟩) s
  exact h.trans (splitK_one c _ _ rfl)
/-! ### resources of a text -/
def lastLt (out : List Res) (name : ByteArray) : Bool := match out.getLast? with | none => true | some r => slt r.name name
def partsGo : List Res → List (List UInt8) → List Res × Int
  | out, [] => (out, 0)
  | out, p :: ps =>
    if (piece 61 p).length = p.length then ([], 2)
    else if !lblB (ba (piece 61 p)) || decide (16 ≤ out.length) || !lastLt out (ba (piece 61 p)) then ([], 2)
    else if (qParse (p.drop ((piece 61 p).length + 1))).2 ≠ 0 then ([], (qParse (p.drop ((piece 61 p).length + 1))).2)
    else partsGo (out ++ [⟨ba (piece 61 p), (qParse (p.drop ((piece 61 p).length + 1))).1⟩]) ps
def vParse (l : List UInt8) : List Res × Int := if l = [] then ([], 0) else partsGo [] (splitC 44 l)
end Go.Proofs.YtgjlgpaoilaikaaGreatDoor
