/-
  Layer 4: slices.Concat of two vectors; the program's both, Add, Sub.
-/
import Derived.Test.YtgjlgpaoilaikaaGreatDoorV5
import Derived.Test.YtgjlgpaoilaikaaGreatDoorApp
namespace Go.Proofs.YtgjlgpaoilaikaaGreatDoor
open Go.RowKit Go.Maps Go.Sort

theorem VAt.shape {w : World} {v : Value} {xs : List Ent} (h : VAt w v xs) : ∃ A c, v = .slice A xs.length c ∧ xs.length ≤ c ∧ c ≤ 9223372036854775807 := by
  obtain ⟨A, c, e, h1, h2, _⟩ := h
  exact ⟨A, c, e, h1, h2⟩
theorem encE_len (x : Ent) : (encE x).length = 3 := rfl
theorem encE_one (x : Ent) : ∀ u ∈ encE x, u.oneCell' = true := by simp [encE, Value.oneCell']

set_option maxRecDepth 100000 in
set_option maxHeartbeats 2000000 in
theorem concat_any (g n2 : Nat) (va vb : Value) (xs ys : List Ent) (w : World) (h0 : w.cell? ⟨g, 0, none⟩ = some va) (h1 : w.cell? ⟨g, 1, none⟩ = some vb) (ha : VAt w va xs) (hb : VAt w vb ys) (hla : xs.length ≤ 100000000) (hlb : ys.length ≤ 100000000) :
    Calls Tryz.prog 62 #[.slice (some ⟨g, 0, none⟩) 2 n2] w fun e w' => ∃ v, e = .returned v ∧ w'.ownsRow w.heap.size 45 3 v (xs ++ ys).length ((xs ++ ys).flatMap encE) ∧ Below w.heap.size w w' := by
  have HA := Lib.hid ha
  have HB := Lib.hid hb
  obtain ⟨A1, c1, rfl, hc1, hd1⟩ := ha.shape
  obtain ⟨A2, c2, rfl, hc2, hd2⟩ := hb.shape
  obtain ⟨N, hN⟩ : ∃ N, N = xs.length + ys.length := ⟨_, rfl⟩
  have HN := Lib.hid hN
  clear ha hb hN
  go_enter Tryz.func62, Tryz.ntmps62
  go_wp2_with fail
  go_loopw [3, 11] (fun s i wr => w = wr ∧ ((s = .int .i64 0 ∧ i = .int .i64 0) ∨ (s = .int .i64 xs.length ∧ i = .int .i64 1) ∨ (s = .int .i64 N ∧ i = .int .i64 2))) (fun _ i _ => 2 - (intOf i).toNat)
  case atStart => exact ⟨rfl, .inl ⟨rfl, rfl⟩⟩
  case round =>
    obtain ⟨rfl, hr⟩ := hrel
    rcases hr with ⟨rfl, rfl⟩ | ⟨rfl, rfl⟩ | ⟨rfl, rfl⟩
    · go_wp2_with fail
      exact ⟨⟨trivial, .inr (.inl ⟨rfl, rfl⟩)⟩, by simp [intOf]⟩
    · go_wp2_with fail
      exact ⟨⟨trivial, .inr (.inr ⟨by rw [HN.out, Int.natCast_add], rfl⟩)⟩, by simp [intOf]⟩
    · go_wp2_with (go_at_call 82; refine (grow_any N _ (by have := HN.out; omega)).mono ?_; rintro e w1 ⟨v0, rfl, hown0, hB1⟩)
      go_loopw [6, 27] (fun v i wr => Below w.heap.size w wr ∧ ((i = .int .i64 0 ∧ wr.ownsRow w.heap.size 45 3 v 0 []) ∨ (i = .int .i64 1 ∧ wr.ownsRow w.heap.size 45 3 v (0 + xs.length) ([] ++ xs.flatMap encE)) ∨ (i = .int .i64 2 ∧ wr.ownsRow w.heap.size 45 3 v (0 + xs.length + ys.length) ([] ++ xs.flatMap encE ++ ys.flatMap encE)))) (fun _ i _ => 2 - (intOf i).toNat)
      case atStart => exact ⟨hB1, .inl ⟨rfl, hown0⟩⟩
      case round =>
        obtain ⟨hB, hr⟩ := hrel
        have hbs := hB.size
        have e0 := keep_cell hB h0
        have e1 := keep_cell hB h1
        have HA2 := Lib.hid (HA.out.below hB)
        have HB2 := Lib.hid (HB.out.below hB)
        rcases hr with ⟨rfl, hown⟩ | ⟨rfl, hown⟩ | ⟨rfl, hown⟩
        · go_wp2_with ((with_reducible refine gate_app (.tmp 31) (.tmp 32) ?_); refine app_row (enc := encE) (w0 := w) w.heap.size rfl (.tmp 31) (.tmp 32) 27 45 (.agg #[.string ⟨#[]⟩, .int .i64 0, .int .u64 0]) 3 32 rfl Tryz.underlying27 infoEnt rfl (by decide) (by decide) _ 0 _ xs _ rfl rfl encE_len encE_one HA2.out hown hB hbs (by omega) ?_; intro v1 w2 hown1 hB2 hs2)
          exact ⟨⟨hB2, .inr (.inl ⟨rfl, hown1⟩)⟩, by simp [intOf]⟩
        · go_wp2_with ((with_reducible refine gate_app (.tmp 31) (.tmp 32) ?_); refine app_row (enc := encE) (w0 := w) w.heap.size rfl (.tmp 31) (.tmp 32) 27 45 (.agg #[.string ⟨#[]⟩, .int .i64 0, .int .u64 0]) 3 32 rfl Tryz.underlying27 infoEnt rfl (by decide) (by decide) _ (0 + xs.length) _ ys _ rfl rfl encE_len encE_one HB2.out hown hB hbs (by omega) ?_; intro v1 w2 hown1 hB2 hs2)
          exact ⟨⟨hB2, .inr (.inr ⟨rfl, hown1⟩)⟩, by simp [intOf]⟩
        · go_wp2_with fail
          go_ret
          refine ⟨_, rfl, ?_, hB⟩
          rw [List.length_append, List.flatMap_append]
          rwa [Nat.zero_add, List.nil_append] at hown

/-! ### both -/
set_option maxRecDepth 100000 in
theorem sub1_is (a b s : Int) (w : World) (ha : wOk a = true) (hb : wOk b = true) (hs : satW (a - b) = s) :
    Calls Tryz.prog 39 #[.agg #[.int .i64 (wHi a), .int .u64 (wLo a)], .agg #[.int .i64 (wHi b), .int .u64 (wLo b)]] w fun e w' => e = .returned (.tuple #[.agg #[.int .i64 (wHi s), .int .u64 (wLo s)], .bool (wOk (a - b))]) ∧ Below w.heap.size w w' := by
  obtain ⟨ok, hok⟩ : ∃ ok, wOk (a - b) = ok := ⟨_, rfl⟩
  have hsub : ∀ W : World, Calls Tryz.prog 40 #[.agg #[.int .i64 (wHi a), .int .u64 (wLo a)], .agg #[.int .i64 (wHi b), .int .u64 (wLo b)]] W fun e w' => e = .returned (.tuple #[.agg #[.int .i64 (wHi s), .int .u64 (wLo s)], .bool ok]) ∧ Below W.heap.size W w' := fun W => by subst hs hok; exact wsub_any a b W ha hb
  have HSB := Lib.hid hsub
  rw [hok]
  clear hsub hok hs ha hb
  go_enter Tryz.func39, Tryz.ntmps39
  go_upto_region 1 with (fail)
  obtain ⟨W0, hW0⟩ : ∃ W0, W0 = ((w.alloc (.cells #[.int .i64 (wHi a), .int .u64 (wLo a)] 41)).alloc (.cells #[.int .i64 (wHi b), .int .u64 (wLo b)] 41)).alloc (.cells #[.int .i64 0, .int .u64 0] 41) := ⟨_, rfl⟩
  rw [← hW0]
  have hsz : W0.heap.size = w.heap.size + 3 := by rw [hW0]; simp
  have ka : W0.heap[w.heap.size]? = some (.cells #[.int .i64 (wHi a), .int .u64 (wLo a)] 41 (0, 0)) := by rw [hW0, Below.heap_alloc _ _ _ (by simp; omega), Below.heap_alloc _ _ _ (by simp), heap_at _ _ _ rfl]
  have kb : W0.heap[w.heap.size + 1]? = some (.cells #[.int .i64 (wHi b), .int .u64 (wLo b)] 41 (0, 0)) := by rw [hW0, Below.heap_alloc _ _ _ (by simp), heap_at _ _ _ (by simp)]
  have kr : W0.heap[w.heap.size + 1 + 1]? = some (.cells #[.int .i64 0, .int .u64 0] 41 (0, 0)) := by rw [hW0, heap_at _ _ _ (by simp)]
  obtain ⟨a0, a1, _, _⟩ := blk2 ka
  obtain ⟨b0, b1, _, _⟩ := blk2 kb
  have hB0 : Below w.heap.size w W0 := by rw [hW0]; exact (((Below.refl _ _).alloc (Nat.le_refl _) _).alloc (by simp) _).alloc (by simp; omega) _
  have KR := Lib.hid kr
  have HS := Lib.hid hsz
  clear ka kb kr hW0 hsz
  go_wp2_with (go_at_call 40; refine (HSB.out _).mono ?_; rintro e w1 ⟨rfl, hB1⟩; have kr1 := blk_below' KR.out hB1; have HK1 := Lib.hid kr1; obtain ⟨r0, r1, f0, f1⟩ := blk2 kr1; clear kr1)
  refine ret_ct rfl (w.heap.size + 1 + 1) 41 #[.int .i64 (wHi s), .int .u64 (wLo s)] (0, 0) _ rfl (blk_put2 HK1.out _ _) Tryz.underlying41 rfl (by kernel_rfl) rfl ⟨rfl, ?_⟩
  have hBB := below_then' hB0 (by have := HS.out; omega) hB1
  exact (hBB.setCell (by simp; omega) _).setCell (by simp; omega) _
end Go.Proofs.YtgjlgpaoilaikaaGreatDoor
