/-
  Common words: appending a whole slice to a row of one's own; slices.Grow of nil.
-/
import Derived.Test.YtgjlgpaoilaikaaGreatDoorV1
import Derived.Test.YtgjlgpaoilaikaaGreatDoorBase3
import Derived.Laws.OwnMore
import Derived.Lib.AppendZerosOnto
namespace Go.Proofs.YtgjlgpaoilaikaaGreatDoor
open Go.RowKit

theorem flat_get {α : Type} {enc : α → List Value} {size : Nat} (hs0 : 0 < size) (hs : ∀ x, (enc x).length = size) : ∀ (ys : List α) (j : Nat) (u : Value), (ys.flatMap enc)[j]? = some u → ∃ k i x, j = k * size + i ∧ ys[k]? = some x ∧ (enc x)[i]? = some u
  | [], j, u, h => by simp at h
  | y :: ys, j, u, h => by
    rw [List.flatMap_cons] at h
    rcases Nat.lt_or_ge j size with hl | hl
    · rw [List.getElem?_append_left (by rw [hs]; exact hl)] at h
      exact ⟨0, j, y, by omega, rfl, h⟩
    · rw [List.getElem?_append_right (by rw [hs]; exact hl), hs] at h
      obtain ⟨k, i, x, e, h1, h2⟩ := flat_get hs0 hs ys _ u h
      exact ⟨k + 1, i, x, by rw [Nat.add_mul]; omega, h1, h2⟩
theorem flat_len {α : Type} {enc : α → List Value} {size : Nat} (hs : ∀ x, (enc x).length = size) : ∀ ys : List α, (ys.flatMap enc).length = ys.length * size
  | [] => by simp
  | y :: ys => by rw [List.flatMap_cons, List.length_append, hs, flat_len hs ys, List.length_cons, Nat.add_mul]; omega

theorem app_row {P : Program} {w0 W : World} {ops : Array Oper} {rest : List Oper} {o : Oper} {a : Act} {Q : Exit → Act → World → Prop} {α : Type} {enc : α → List Value} (base : Nat) (hgd : o.guard = none) (s x : Operand) (t e : TypeId) (z : Value) (size bytes : Nat)
    (ho : o.op = .call { callee := .builtin .append, args := #[s, x], argTypes := #[t, t] })
    (ht : P.underlying t = some (.slice e)) (hinfo : (P.info? e).map (fun i => (i.zero, i.size, i.bytes)) = some (some z, size, bytes)) (hz : z.cells.size = size) (hs0 : 0 < size) (hb0 : 0 < bytes)
    (v : Value) (n : Nat) (xs : List Value) (ys : List α) (xv : Value) (hs : a.eval s = v) (hx : a.eval x = xv) (hen : ∀ y, (enc y).length = size) (h1 : ∀ y, ∀ u ∈ enc y, u.oneCell' = true)
    (HY : SlAt (fun _ x cs => cs = enc x) size W xv ys)
    (HO : W.ownsRow base e size v n xs) (HB : Below base w0 W) (hbase : base ≤ W.heap.size) (hl : (n + ys.length) * bytes ≤ 140737488355328)
    (h : ∀ v1 w1, w1.ownsRow base e size v1 (n + ys.length) (xs ++ ys.flatMap enc) → Below base w0 w1 → base ≤ w1.heap.size → wpList P ops Q rest (a.put o.dst v1) w1) :
    wpList P ops Q (o :: rest) a W := by
  obtain ⟨i0, hi, hzz⟩ := Option.map_eq_some_iff.1 hinfo
  simp only [Prod.mk.injEq] at hzz
  obtain ⟨hz0, hz1, hz2⟩ := hzz
  have hlen : n + ys.length ≤ 140737488355328 := Nat.le_trans (Nat.le_mul_of_pos_right _ hb0) hl
  have hfl := flat_len hen ys
  have hdone : ∀ v1 w1, w1.ownsRow base e size v1 (n + ys.length) (xs ++ ys.flatMap enc) → W.grownBy w1 v.ownBlock → wpList P ops Q rest (a.put o.dst v1) w1 := fun v1 w1 g1 g2 => by
    refine h v1 w1 g1 ?_ (Nat.le_trans hbase g2.size)
    refine ⟨g2.os.trans HB.os, g2.tape.trans HB.tape, g2.output.trans HB.output, Nat.le_trans HB.size g2.size, fun k hk => ?_⟩
    refine (g2.block k (by omega) ?_).trans (HB.block k hk)
    obtain ⟨_, hr⟩ := HO
    rcases hr with ⟨rfl, _⟩ | ⟨g, cap, cur, rfl, hg, _⟩
    · simp [Value.ownBlock]
    · simp only [Value.ownBlock, ne_eq, Option.some.injEq]; omega
  obtain ⟨A, c, rfl, hle, hcm, hcells⟩ := HY
  cases A with
  | some ad =>
    refine wpList_append_own_at W hgd s x t ho base e i0 z size bytes ht hi hz0 hz1 hz2 hz hs0 v n xs hs HO ad ys.length c (ys.flatMap enc) hx hfl ?_ ?_ (by simp only [maxLen]; omega) hl hbase (fun v1 w1 g1 g2 _ _ => hdone v1 w1 g1 g2)
    · intro j u hj
      obtain ⟨k, i, y, rfl, hk, hi'⟩ := flat_get hs0 hen ys j u hj
      obtain ⟨b, off, e1, hb, hc⟩ := hcells (by have := (List.getElem?_eq_some_iff.1 hk).1; omega)
      cases e1
      obtain ⟨cs, _, rfl, hcs⟩ := hc k y hk
      have := hcs i u hi'
      have e2 : (⟨b, off, none⟩ : Addr).add (k * size + i) = ⟨b, off + k * size + i, none⟩ := by
        unfold Addr.add
        split
        · rename_i h0
          have h0 : k * size + i = 0 := by simpa using h0
          have e3 : off + k * size + i = off := by omega
          rw [e3]
        · rw [← Nat.add_assoc]
      rw [e2]
      exact this
    · intro u hu
      obtain ⟨y, _, hy⟩ := List.mem_flatMap.1 hu
      exact h1 y u hy
  | none =>
    have h0 : ys = [] := by
      cases ys with
      | nil => rfl
      | cons y ys => obtain ⟨b, off, e1, _⟩ := hcells (by simp); cases e1
    subst h0
    have hr : (Builtin.append_ #[t, t] o.type #[v, .slice none 0 c]).run P W = .ok v W := by
      rcases HO.2 with ⟨rfl, rfl⟩ | ⟨g, cap, cur, rfl, _, _, hnc, _⟩
      · simp [Builtin.append_, run_underlying ht, sizeOf, typeInfo, hi, Builtin.lenOf, Builtin.firstCells]
      · simp [Builtin.append_, run_underlying ht, sizeOf, typeInfo, hi, Builtin.lenOf, Builtin.firstCells, hnc, storeCells]
    refine wpList_plain hgd fun K hK => ?_
    unfold Oper.wp execOp
    simp only [ho, resolve, invoke, builtin, Sem.run_bind, Sem.run_pure, Result.andThen_ok, List.map_toArray, List.map_cons, List.map_nil, hs, hx, List.length_nil, hr]
    exact hK _ _ (h v W (by simpa using HO) HB hbase)

/-- an append whose run is known -/
theorem app_run {P : Program} {W W2 : World} {ops : Array Oper} {rest : List Oper} {o : Oper} {a : Act} {Q : Exit → Act → World → Prop} (hgd : o.guard = none) (s x : Operand) (t u : TypeId)
    (ho : o.op = .call { callee := .builtin .append, args := #[s, x], argTypes := #[t, u] }) {vs vx v : Value} (hs : a.eval s = vs) (hx : a.eval x = vx)
    (hr : (Builtin.append_ #[t, u] o.type #[vs, vx]).run P W = .ok v W2) (h : wpList P ops Q rest (a.put o.dst v) W2) : wpList P ops Q (o :: rest) a W := by
  refine wpList_plain hgd fun K hK => ?_
  unfold Oper.wp execOp
  simp only [ho, resolve, invoke, builtin, Sem.run_bind, Sem.run_pure, Result.andThen_ok, List.map_toArray, List.map_cons, List.map_nil, hs, hx, hr]
  exact hK _ _ h

set_option maxRecDepth 100000 in
set_option maxHeartbeats 1000000 in
theorem grow_any (n : Nat) (w : World) (hn : n ≤ 1000000000) :
    Calls Tryz.prog 82 #[.slice none 0 0, .int .i64 n] w fun e w' => ∃ v, e = .returned v ∧ w'.ownsRow w.heap.size 45 3 v 0 [] ∧ Below w.heap.size w w' := by
  rcases Nat.eq_zero_or_pos n with h0 | hp
  · subst h0
    go_enter Tryz.func82, Tryz.ntmps82
    go_wp2_with fail
    go_ret
    exact ⟨_, rfl, own_nil' _ _ _ _, Below.refl _ _⟩
  · obtain ⟨i0, hi, hzz⟩ := Option.map_eq_some_iff.1 infoEnt
    simp only [Prod.mk.injEq] at hzz
    obtain ⟨hz0, hz1, hz2⟩ := hzz
    have hfit : Builtin.nextslicecap (0 + n) 0 * i0.bytes ≤ 281474976710656 := growslice_fits (by omega) (by rw [hz2]; omega)
    have hr := fun (W : World) (ty : TypeId) => Lib.run_append_grow_zeros W 27 3 ty 45 i0 _ .i64 .i64 Tryz.underlying27 Tryz.underlying3 hi hz0 none 0 0 [] (run_firstCells_none W.drew i0.size 0 0 0) n hp (by rw [hz1]; omega) (by omega) (by omega) (by rw [hz2]; omega) hfit
    obtain ⟨G, hG⟩ : ∃ G, grownCap w (0 + n) 0 45 = G := ⟨_, rfl⟩
    have hge : n ≤ G := by have := grownCap_ge w (0 + n) 0 45; omega
    have hle : G ≤ 9223372036854775807 := by have := grownCap_le_maxLen w (0 + n) 0 45 (by unfold maxLen; omega); unfold maxLen at this; omega
    obtain ⟨cs, hcs⟩ : ∃ cs : Array Value, ([] : List Value).toArray ++ Builtin.zeroCells (Value.agg #[.string ⟨#[]⟩, .int .i64 0, .int .u64 0]).cells n ++ Builtin.zeroCells (Value.agg #[.string ⟨#[]⟩, .int .i64 0, .int .u64 0]).cells (G - (0 + n)) = cs := ⟨_, rfl⟩
    have hr1 := fun (ty : TypeId) => hr w ty
    rw [hG, hcs] at hr1
    rw [Nat.zero_add] at hr1
    have hsz : cs.size = G * 3 := by
      rw [← hcs]
      simp only [Array.size_append, size_zeroCells, List.size_toArray, List.length_nil]
      show 0 + n * 3 + (G - (0 + n)) * 3 = G * 3
      omega
    have HS := Lib.hid hsz
    clear hr hG hcs hsz hfit hi hz0 hz1 hz2
    go_enter Tryz.func82, Tryz.ntmps82
    obtain ⟨W2, hW2⟩ : ∃ W2, w.drew.alloc (.cells cs 45) = W2 := ⟨_, rfl⟩
    have hb : W2.heap[w.heap.size]? = some (.cells cs 45 (0, 0)) := by rw [← hW2]; exact heap_at _ _ _ rfl
    have hB : Below w.heap.size w W2 := by rw [← hW2]; exact (below_drewN' (Below.refl w.heap.size w) 1).alloc (Nat.le_refl _) _
    have hr2 := Lib.hid hr1
    have HB := Lib.hid hb
    clear hr1 hb
    go_wp2_with ((with_reducible refine gate_app (.tmp 20) (.tmp 21) ?_); refine app_run rfl (.tmp 20) (.tmp 21) 27 3 rfl rfl rfl (hr2.out _) ?_; rw [hW2])
    go_ret
    refine ⟨_, rfl, ⟨rfl, .inr ⟨w.heap.size, G, cs, rfl, Nat.le_refl _, HB.out, Nat.zero_le _, by unfold maxLen; omega, HS.out, by simp⟩⟩, hB⟩
end Go.Proofs.YtgjlgpaoilaikaaGreatDoor
