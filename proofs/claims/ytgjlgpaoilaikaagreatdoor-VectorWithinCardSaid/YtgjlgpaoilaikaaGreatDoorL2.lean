/-
  Layer 2: wide numbers: the program's Of, Add, Sub, Compare, Fits, and the reference's, over whole numbers.
-/
import Derived.Test.YtgjlgpaoilaikaaGreatDoorBase
import Derived.Laws.Externs
import Derived.Shelf.Spec.BitsCarry
namespace Go.Proofs.YtgjlgpaoilaikaaGreatDoor
open Go.RowKit

/-! ### whole numbers of 128 bits -/
def wHi (n : Int) : Int := n / 18446744073709551616
def wLo (n : Int) : Int := n % 18446744073709551616
def wOk (n : Int) : Bool := decide (-170141183460469231731687303715884105728 ≤ n) && decide (n < 170141183460469231731687303715884105728)
def wV (n : Int) : Value := .agg #[.int .i64 (wHi n), .int .u64 (wLo n)]
theorem wOk_iff (n : Int) : wOk n = true ↔ -170141183460469231731687303715884105728 ≤ n ∧ n < 170141183460469231731687303715884105728 := by simp [wOk]
theorem wLo_range (n : Int) : 0 ≤ wLo n ∧ wLo n ≤ 18446744073709551615 := by unfold wLo; omega
theorem wHi_range (n : Int) (h : wOk n = true) : -9223372036854775808 ≤ wHi n ∧ wHi n ≤ 9223372036854775807 := by
  rw [wOk_iff] at h; unfold wHi; omega
theorem w_eq (n : Int) : n = wHi n * 18446744073709551616 + wLo n := by unfold wHi wLo; omega
theorem w_of (h l : Int) (h0 : 0 ≤ l) (h1 : l ≤ 18446744073709551615) : wHi (h * 18446744073709551616 + l) = h ∧ wLo (h * 18446744073709551616 + l) = l := by
  unfold wHi wLo; omega

/-! ### math/bits.Add64, Sub64: laws of the call -/
def s64 (x y c : Int) : Int := (x + y + c) % 18446744073709551616
def c64 (x y c : Int) : Int := (x + y + c) / 18446744073709551616
def d64 (x y b : Int) : Int := (x - y - b) % 18446744073709551616
def b64 (x y b : Int) : Int := if x < y + b then 1 else 0
theorem add64_run (x y c : Int) (hx : 0 ≤ x) (hy : 0 ≤ y) (hc0 : 0 ≤ c) (hc : c ≤ 1) (w : World) :
    (callFunc 52 #[.int .u64 x, .int .u64 y, .int .u64 c]).run Tryz.prog w = .ok (.value (.tuple #[.int .u64 (s64 x y c), .int .u64 (c64 x y c)])) w := by
  rw [run_callFunc_extern Tryz.func52 (by kernel_rfl) (by kernel_rfl) (by kernel_rfl) (e := add64Entry) (by kernel_rfl), run_add64 x y c hx hy hc0 hc]
  rfl
theorem sub64_run (x y b : Int) (hx : 0 ≤ x) (hy : 0 ≤ y) (hy' : y ≤ 18446744073709551615) (hb0 : 0 ≤ b) (hb : b ≤ 1) (w : World) :
    (callFunc 63 #[.int .u64 x, .int .u64 y, .int .u64 b]).run Tryz.prog w = .ok (.value (.tuple #[.int .u64 (d64 x y b), .int .u64 (b64 x y b)])) w := by
  obtain ⟨x, rfl⟩ := Int.eq_ofNat_of_zero_le hx
  obtain ⟨y, rfl⟩ := Int.eq_ofNat_of_zero_le hy
  obtain ⟨b, rfl⟩ := Int.eq_ofNat_of_zero_le hb0
  rw [run_callFunc_extern Tryz.func63 (by kernel_rfl) (by kernel_rfl) (by kernel_rfl) (e := sub64Entry) (by kernel_rfl), run_sub64 x y b (by omega)]
  have e1 : ((((x + 18446744073709551616 - y - b) % 18446744073709551616 : Nat)) : Int) = d64 x y b := by unfold d64; omega
  have e2 : (((if x < y + b then 1 else 0 : Nat)) : Int) = b64 x y b := by
    unfold b64
    by_cases h : x < y + b
    · rw [if_pos h, if_pos (by omega)]; rfl
    · rw [if_neg h, if_neg (by omega)]; rfl
  simp only [Result.andThen, e1, e2]
theorem c64_range (x y c : Int) (hx : 0 ≤ x) (hy : 0 ≤ y) (hx' : x ≤ 18446744073709551615) (hy' : y ≤ 18446744073709551615) (hc0 : 0 ≤ c) (hc : c ≤ 1) : 0 ≤ c64 x y c ∧ c64 x y c ≤ 1 := by
  unfold c64; omega

/-! ### the upper halves, as the program reckons them -/
theorem u64w (x : Int) : IntKind.u64.wrap x = x % 18446744073709551616 := by simp [IntKind.wrap, IntKind.bits, IntKind.signed]
theorem i64w (x : Int) : IntKind.i64.wrap x = (x + 9223372036854775808) % 18446744073709551616 - 9223372036854775808 := by rw [IntKind.wrap_i64]
theorem uw_range (x : Int) : 0 ≤ IntKind.u64.wrap x ∧ IntKind.u64.wrap x ≤ 18446744073709551615 := by
  have h := u64w x
  omega
def rAdd (a b : Int) : Int := IntKind.i64.wrap (s64 (IntKind.u64.wrap (wHi a)) (IntKind.u64.wrap (wHi b)) (c64 (wLo a) (wLo b) 0))
def rSub (a b : Int) : Int := IntKind.i64.wrap (d64 (IntKind.u64.wrap (wHi a)) (IntKind.u64.wrap (wHi b)) (b64 (wLo a) (wLo b) 0))
theorem radd_pure (a b : Int) (ha : wOk a = true) (hb : wOk b = true) :
    (wOk (a + b) = true → wHi (a + b) = rAdd a b ∧ wLo (a + b) = s64 (wLo a) (wLo b) 0) ∧ (wOk (a + b) = false ↔ ((wHi a < 0 ↔ wHi b < 0) ∧ ¬ (rAdd a b < 0 ↔ wHi a < 0))) := by
  rw [wOk_iff] at ha hb
  rw [Bool.eq_false_iff, ne_eq, wOk_iff]
  simp only [rAdd, u64w, i64w, s64, c64, wHi, wLo]
  constructor
  · intro h
    omega
  · omega
theorem b64_cases (x y b : Int) : (x < y + b ∧ b64 x y b = 1) ∨ (¬ x < y + b ∧ b64 x y b = 0) := by
  unfold b64
  split <;> simp [*]
theorem rsub_pure (a b : Int) (ha : wOk a = true) (hb : wOk b = true) :
    (wOk (a - b) = true → wHi (a - b) = rSub a b ∧ wLo (a - b) = d64 (wLo a) (wLo b) 0) ∧ (wOk (a - b) = false ↔ (¬ (wHi a < 0 ↔ wHi b < 0) ∧ ¬ (rSub a b < 0 ↔ wHi a < 0))) := by
  rw [wOk_iff] at ha hb
  rw [Bool.eq_false_iff, ne_eq, wOk_iff]
  simp only [rSub, u64w, i64w, d64]
  rcases b64_cases (wLo a) (wLo b) 0 with ⟨h1, h2⟩ | ⟨h1, h2⟩
  all_goals
    rw [h2]
    simp only [wHi, wLo] at h1 ⊢
    constructor
    · intro h
      omega
    · omega
theorem b64_range (x y b : Int) : 0 ≤ b64 x y b ∧ b64 x y b ≤ 1 := by rcases b64_cases x y b with h | h <;> omega

/-- what comes of a sum: the number and true, or nought and false -/
def wRes (n : Int) : Value := .tuple #[wV (if wOk n then n else 0), .bool (wOk n)]
theorem wRes_yes {n h l : Int} (hn : wOk n = true) (h1 : wHi n = h) (h2 : wLo n = l) : wRes n = .tuple #[.agg #[.int .i64 h, .int .u64 l], .bool true] := by
  subst h1 h2; simp [wRes, hn, wV]
theorem wRes_no {n : Int} (hn : wOk n = false) : wRes n = .tuple #[.agg #[.int .i64 0, .int .u64 0], .bool false] := by
  simp [wRes, hn, wV, wHi, wLo]
theorem wRes_form (n : Int) : ∃ h l ok, wRes n = .tuple #[.agg #[.int .i64 h, .int .u64 l], .bool ok] := ⟨_, _, _, rfl⟩

set_option maxRecDepth 100000 in
set_option maxHeartbeats 400000 in
theorem wadd_any (a b : Int) (w : World) (ha : wOk a = true) (hb : wOk b = true) :
    Calls Tryz.prog 25 #[wV a, wV b] w fun e w' => e = .returned (wRes (a + b)) ∧ Below w.heap.size w w' := by
  unfold wV
  have la := wLo_range a
  have lb := wLo_range b
  have ua := uw_range (wHi a)
  have ub := uw_range (wHi b)
  have hc := c64_range (wLo a) (wLo b) 0 la.1 lb.1 la.2 lb.2 (by omega) (by omega)
  have h1 := add64_run (wLo a) (wLo b) 0 la.1 lb.1 (by omega) (by omega)
  have h2 := add64_run (IntKind.u64.wrap (wHi a)) (IntKind.u64.wrap (wHi b)) (c64 (wLo a) (wLo b) 0) ua.1 ub.1 hc.1 hc.2
  have hp := Lib.hid (radd_pure a b ha hb)
  have hr : IntKind.i64.wrap (s64 (IntKind.u64.wrap (wHi a)) (IntKind.u64.wrap (wHi b)) (c64 (wLo a) (wLo b) 0)) = rAdd a b := rfl
  clear la lb ua ub hc ha hb
  by_cases hA : wHi a < 0 <;> by_cases hB : wHi b < 0 <;> by_cases hR : rAdd a b < 0
  all_goals
    go_enter Tryz.func25, Tryz.ntmps25
    go_wp2_with fail
    first
      | (have hn : wOk (a + b) = false := hp.out.2.2 (by omega)
         rw [wRes_no hn]
         exact bodyPost_ret (v := .tuple #[.agg #[.int .i64 0, .int .u64 0], .bool false]) (by simp [results, Tryz.results25, go_sem]) rfl ⟨rfl, ((((Below.refl _ _).alloc (Nat.le_refl _) _).alloc (by simp) _).alloc (by simp; omega) _).alloc (by simp; omega) _⟩)
      | (have hn : wOk (a + b) = true := by rw [← Bool.not_eq_false]; intro h; have := hp.out.2.1 h; omega
         rw [wRes_yes hn (hp.out.1 hn).1 (hp.out.1 hn).2]
         exact bodyPost_ret (v := .tuple #[.agg #[.int .i64 (rAdd a b), .int .u64 (s64 (wLo a) (wLo b) 0)], .bool true]) (by simp [results, Tryz.results25, go_sem]) rfl ⟨rfl, ((((Below.refl _ _).alloc (Nat.le_refl _) _).alloc (by simp) _).alloc (by simp; omega) _).alloc (by simp; omega) _⟩)
end Go.Proofs.YtgjlgpaoilaikaaGreatDoor
