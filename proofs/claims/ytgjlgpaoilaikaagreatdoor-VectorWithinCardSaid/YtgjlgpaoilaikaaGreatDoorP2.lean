/-
  Plain: what a sum of vectors is; within: what the answer tells of each name.
-/
import Derived.Test.YtgjlgpaoilaikaaGreatDoorA1
namespace Go.Proofs.YtgjlgpaoilaikaaGreatDoor
open Go.RowKit Go.Maps Go.Sort
theorem right_fine {x : List Ent} (h : vRight x = true) (hw : ∀ s, wOk (G x s) = true) : VFine x := by
  obtain ⟨h1, _, h3⟩ := (vRight_iff x).1 h
  intro y hy
  have hs := (lbl_size (h1 y hy)).2
  have := hw (nm y.name)
  rw [G_mem h3 hy] at this
  exact ⟨by omega, this⟩
theorem vMade_len (f : List UInt8 → Option Int) : ∀ L : List (List UInt8), (vMade f L).length ≤ L.length
  | [] => by simp [vMade]
  | s :: L => by
    have ih := vMade_len f L
    unfold vMade at ih ⊢
    rw [List.flatMap_cons, List.length_append, List.length_cons]
    split
    · rw [List.length_nil]; omega
    · rw [List.length_singleton]; omega
theorem both_len (h : ByteArray → Int) (a b : List Ent) : (bothH h a b).1.length ≤ a.length + b.length := by
  unfold bothH
  split
  · split
    · simp
    · refine Nat.le_trans (vMade_len _ _) ?_
      rw [(List.mergeSort_perm _ _).length_eq, namesE]
      refine Nat.le_trans (dd_length _) ?_
      simp
  · simp
theorem lawFit_len {a : List Ent} (h : lawFit a = true) : a.length ≤ 40 := by
  unfold lawFit at h
  rw [Bool.and_eq_true] at h
  exact of_decide_eq_true h.1
/-- what a sum is -/
structure SumIs (a b x : List Ent) : Prop where
  ra : vRight a = true
  rb : vRight b = true
  rx : vRight x = true
  fx : VFine x
  back : vSub x b = (a, 0)
  back2 : vSub x a = (b, 0)
  each : ∀ y ∈ a, wOk (y.n + vGet b y.name) = true ∧ vGet x y.name = satW (y.n + vGet b y.name)
theorem sum_cases (a b : List Ent) (hfa : VFine a) (hfb : VFine b) : ∃ x e0, vAdd a b = (x, e0) ∧ x.length ≤ a.length + b.length ∧ VFine x ∧ ((e0 = 0 ∧ SumIs a b x) ∨ (e0 = 3 ∧ x = []) ∨ (e0 = 1 ∧ x = [])) := by
  have hl := both_len (fun s => vGet a s + vGet b s) a b
  rw [show bothH (fun s => vGet a s + vGet b s) a b = vAdd a b from rfl] at hl
  rcases add_cases (a := a) (b := b) with ⟨ra, rb, hw, x, hx, rx, hG⟩ | h | h
  · rw [hx] at hl
    have hf : VFine x := right_fine rx (fun s => by rw [hG]; exact hw s)
    refine ⟨x, 0, hx, hl, hf, .inl ⟨rfl, ra, rb, rx, hf, sub_back ra rb rx hfa hG, sub_back rb ra rx hfb (fun s => by rw [hG]; omega), fun y hy => ?_⟩⟩
    have hg := hw (nm y.name)
    have hx2 := hG (nm y.name)
    rw [G_mem ((vRight_iff a).1 ra).2.2 hy] at hg hx2
    rw [vGet_G, vGet_G]
    refine ⟨hg, ?_⟩
    rw [hx2, satW, if_pos hg]
  · exact ⟨[], 3, h, by simp, fine_nil, .inr (.inl ⟨rfl, rfl⟩)⟩
  · exact ⟨[], 1, h, by simp, fine_nil, .inr (.inr ⟨rfl, rfl⟩)⟩
theorem sums_one {a b c x z wl o : List Ent} {i j k : Int} (h1 : vAdd a b = (x, 0)) (h2 : vAdd x c = (wl, i)) (h3 : vAdd b c = (z, j)) (h4 : vAdd a z = (o, k)) : (decide (i ≠ 0) || decide (j ≠ 0) || decide (k ≠ 0) || vSame wl o) = true := by
  by_cases hi : i = 0
  · by_cases hj : j = 0
    · by_cases hk : k = 0
      · subst hi; subst hj; subst hk
        rw [add_assoc h1 h2 h3 h4, (vSame_iff o o).2 rfl]
        simp
      · simp [hk]
    · simp [hj]
  · simp [hi]
/-! ### within -/
theorem within_told {a b : List Ent} {r : Bool} {s : ByteArray} (ra : vRight a = true) (rb : vRight b = true) (h : vWithin a b = (r, s)) :
    (r = true ∧ s = ⟨#[]⟩ ∧ ∀ y ∈ b, ¬ 0 < cmpI (vGet a y.name) y.n) ∨ (r = false ∧ b ≠ [] ∧ ∀ y ∈ b, (0 < cmpI (vGet a y.name) y.n ∧ nm y.name = nm s) ∨ (¬ 0 < cmpI (vGet a y.name) y.n ∧ nm y.name ≠ nm s) ∨ (0 < cmpI (vGet a y.name) y.n ∧ nm y.name ≠ nm s ∧ nm s < nm y.name)) := by
  obtain ⟨_, _, h3⟩ := (vRight_iff b).1 rb
  simp only [vWithin, ra, rb, Bool.and_self, if_true] at h
  cases r
  · right
    refine ⟨rfl, fun hb => by rw [hb] at h; simp [vWithinGo] at h, ?_⟩
    obtain ⟨l1, z, l2, rfl, hs, hz, hl⟩ := within_no (v := a) (h := b) (by rw [h])
    rw [h] at hs
    simp only at hs
    subst hs
    obtain ⟨_, p2, p3⟩ := List.pairwise_append.1 h3
    intro y hy
    rcases List.mem_append.1 hy with hy | hy
    · right; left
      rw [cmp_pos, vGet_G]
      refine ⟨by have := hl y hy; omega, fun e => lt_irr _ (e ▸ p3 y hy z (by simp))⟩
    · rcases List.mem_cons.1 hy with rfl | hy
      · left
        rw [cmp_pos, vGet_G]
        exact ⟨hz, rfl⟩
      · have hlt := (List.pairwise_cons.1 p2).1 y hy
        have hne : nm y.name ≠ nm z.name := fun e => lt_irr _ (e ▸ hlt)
        by_cases hp : 0 < cmpI (vGet a y.name) y.n
        · exact .inr (.inr ⟨hp, hne, hlt⟩)
        · exact .inr (.inl ⟨hp, hne⟩)
  · left
    obtain ⟨h1, h2⟩ := within_yes (v := a) (h := b) (by rw [h])
    rw [h] at h1
    refine ⟨rfl, h1, fun y hy => ?_⟩
    rw [cmp_pos, vGet_G]
    have := h2 y hy
    omega
theorem big_within {a b big : List Ent} {y0 : Ent} {m : Int} (ra : vRight a = true) (rb : vRight b = true) (hin : ∀ y ∈ b, ¬ 0 < cmpI (vGet a y.name) y.n) (hy0 : y0 ∈ b) (hm : 0 ≤ m) (hbig : vAdd b [⟨y0.name, m⟩] = (big, 0)) : vWithin a big = (true, ⟨#[]⟩) := by
  obtain ⟨_, _, b3⟩ := (vRight_iff b).1 rb
  have hle : ∀ y ∈ b, G a (nm y.name) ≤ y.n := fun y hy => by
    have := hin y hy
    rw [cmp_pos, vGet_G] at this
    omega
  rcases add_cases (a := b) (b := [⟨y0.name, m⟩]) with ⟨_, _, _, r, e, k1, k2⟩ | e | e
  · rw [hbig] at e
    cases e
    obtain ⟨_, g2, g3⟩ := (vRight_iff big).1 k1
    simp only [vWithin, ra, k1, Bool.and_self, if_true]
    refine within_go fun x hx => ?_
    have hxn := G_mem g3 hx
    rw [k2, G_cons, G_nil] at hxn
    by_cases he : nm y0.name = nm x.name
    · simp only [he, if_true] at hxn
      have h1 := hle y0 hy0
      have h2 := G_mem b3 hy0
      rw [he] at h1 h2
      omega
    · simp only [he, if_false] at hxn
      have hne : G b (nm x.name) ≠ 0 := fun h0 => g2 x hx (by omega)
      obtain ⟨y, hy, e⟩ := G_ne hne
      have h1 := hle y hy
      have h2 := G_mem b3 hy
      rw [e] at h1 h2
      omega
  · rw [hbig] at e; simp at e
  · rw [hbig] at e; simp at e
end Go.Proofs.YtgjlgpaoilaikaaGreatDoor
