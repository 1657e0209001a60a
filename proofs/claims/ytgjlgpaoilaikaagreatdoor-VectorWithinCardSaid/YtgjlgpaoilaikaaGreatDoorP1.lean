/-
  Plain: vectors that may be are told by what they have of each name; the program's and the reference's vector of resources are one; sums, differences, within.
-/
import Derived.Test.YtgjlgpaoilaikaaGreatDoorV7
import Derived.Sort.Walk0
namespace Go.Proofs.YtgjlgpaoilaikaaGreatDoor
open Go.RowKit Go.Maps Go.Sort
theorem slt_iff (a b : ByteArray) : slt a b = true ↔ nm a < nm b := by
  rw [slt, Proofs.bytesLess_eq, decide_eq_true_eq]
theorem lt_irr (a : List UInt8) : ¬ a < a := List.lt_irrefl a
theorem lt_tr {a b c : List UInt8} (h : a < b) (k : b < c) : a < c := List.lt_trans h k
theorem lt_cases (a b : List UInt8) : a < b ∨ a = b ∨ b < a := by
  by_cases h : a < b
  · exact .inl h
  · by_cases k : b < a
    · exact .inr (.inr k)
    · exact .inr (.inl (List.le_antisymm (List.not_lt.1 k) (List.not_lt.1 h)))

/-- of each name how much there is -/
def G (xs : List Ent) (s : List UInt8) : Int := vGet xs (ba s)
theorem vGet_G (xs : List Ent) (name : ByteArray) : vGet xs name = G xs (nm name) := rfl
theorem G_nil (s : List UInt8) : G [] s = 0 := rfl
theorem G_cons (x : Ent) (xs : List Ent) (s : List UInt8) : G (x :: xs) s = if nm x.name = s then x.n else G xs s := by
  unfold G vGet
  rw [nm_ba, List.find?_cons]
  by_cases h : nm x.name = s
  · have : (nm x.name == s) = true := by simpa using h
    simp [h]
  · have : (nm x.name == s) = false := by simpa using h
    simp only [this, if_neg h]
theorem G_append (xs ys : List Ent) (s : List UInt8) (h : ∀ x ∈ xs, nm x.name ≠ s) : G (xs ++ ys) s = G ys s := by
  induction xs with
  | nil => rfl
  | cons x xs ih => rw [List.cons_append, G_cons, if_neg (h x (by simp)), ih fun y hy => h y (by simp [hy])]
theorem G_none {xs : List Ent} {s : List UInt8} (h : ∀ x ∈ xs, nm x.name ≠ s) : G xs s = 0 := by
  have := G_append xs [] s h
  rwa [List.append_nil, G_nil] at this
def Rises (xs : List Ent) : Prop := xs.Pairwise fun x y => nm x.name < nm y.name
def NZ (xs : List Ent) : Prop := ∀ x ∈ xs, x.n ≠ 0
def LB (xs : List Ent) : Prop := ∀ x ∈ xs, lblB x.name = true
theorem G_mem {xs : List Ent} (h : Rises xs) {x : Ent} (hx : x ∈ xs) : G xs (nm x.name) = x.n := by
  induction xs with
  | nil => cases hx
  | cons y ys ih =>
    rw [G_cons]
    obtain ⟨h1, h2⟩ := List.pairwise_cons.1 h
    rcases List.mem_cons.1 hx with rfl | hx
    · rw [if_pos rfl]
    · rw [if_neg (fun e => lt_irr _ (e ▸ h1 x hx)), ih h2 hx]
theorem G_ne {xs : List Ent} {s : List UInt8} (h : G xs s ≠ 0) : ∃ x ∈ xs, nm x.name = s := by
  by_cases hh : ∃ x ∈ xs, nm x.name = s
  · exact hh
  · exact absurd (G_none fun x hx e => hh ⟨x, hx, e⟩) h
/-- rising vectors without nought are told by what they have -/
theorem v_ext : ∀ {xs ys : List Ent}, Rises xs → Rises ys → NZ xs → NZ ys → (∀ s, G xs s = G ys s) → xs = ys
  | [], [], _, _, _, _, _ => rfl
  | [], y :: ys, _, _, _, hy, h => by
    have := h (nm y.name)
    rw [G_nil, G_cons, if_pos rfl] at this
    exact absurd this.symm (hy y (by simp))
  | x :: xs, [], _, _, hx, _, h => by
    have := h (nm x.name)
    rw [G_nil, G_cons, if_pos rfl] at this
    exact absurd this (hx x (by simp))
  | x :: xs, y :: ys, rx, ry, hx, hy, h => by
    obtain ⟨r1, r2⟩ := List.pairwise_cons.1 rx
    obtain ⟨q1, q2⟩ := List.pairwise_cons.1 ry
    have key : ∀ {a : Ent} {xa : List Ent} {b : Ent} {bs : List Ent}, (∀ z ∈ bs, nm b.name < nm z.name) → a.n ≠ 0 → G (a :: xa) (nm a.name) = G (b :: bs) (nm a.name) → ¬ nm a.name < nm b.name := by
      intro a xa b bs hb ha he hlt
      rw [G_cons, if_pos rfl, G_cons, if_neg (fun e => lt_irr _ (e ▸ hlt)), G_none fun z hz e => lt_irr _ (e ▸ lt_tr hlt (hb z hz))] at he
      exact ha he
    have hn : nm x.name = nm y.name := by
      rcases lt_cases (nm x.name) (nm y.name) with l | l | l
      · exact absurd l (key q1 (hx x (by simp)) (h _))
      · exact l
      · exact absurd l (key r1 (hy y (by simp)) (h _).symm)
    have h0 := h (nm x.name)
    rw [G_cons, G_cons, if_pos rfl, if_pos hn.symm] at h0
    have e : x = y := by
      obtain ⟨a, b⟩ := x
      obtain ⟨c, d⟩ := y
      have := nm_inj hn
      simp only at this h0
      rw [this, h0]
    subst e
    rw [v_ext r2 q2 (fun z hz => hx z (by simp [hz])) (fun z hz => hy z (by simp [hz])) fun s => ?_]
    by_cases hs : nm x.name = s
    · subst hs
      rw [G_none fun z hz e => lt_irr _ (e ▸ r1 z hz), G_none fun z hz e => lt_irr _ (e ▸ q1 z hz)]
    · have := h s
      rwa [G_cons, G_cons, if_neg hs, if_neg hs] at this
theorem vRightGo_iff : ∀ (xs : List Ent) (p : Option ByteArray), vRightGo p xs = true ↔ LB xs ∧ NZ xs ∧ Rises xs ∧ (∀ q, p = some q → ∀ x ∈ xs, nm q < nm x.name)
  | [], p => by simp [vRightGo, LB, NZ, Rises]
  | x :: xs, p => by
    rw [vRightGo]
    simp only [Bool.and_eq_true, Bool.not_eq_true', decide_eq_false_iff_not, vRightGo_iff xs]
    have hr : riseB p x.name = true ↔ ∀ q, p = some q → nm q < nm x.name := by
      cases p with
      | none => simp [riseB]
      | some q => simp [riseB, slt_iff]
    rw [hr]
    constructor
    · rintro ⟨⟨⟨h1, h2⟩, h3⟩, h4, h5, h6, h7⟩
      refine ⟨?_, ?_, List.pairwise_cons.2 ⟨h7 _ rfl, h6⟩, ?_⟩
      · intro y hy
        rcases List.mem_cons.1 hy with rfl | hy
        · exact h1
        · exact h4 y hy
      · intro y hy
        rcases List.mem_cons.1 hy with rfl | hy
        · exact h2
        · exact h5 y hy
      · intro q hq y hy
        rcases List.mem_cons.1 hy with rfl | hy
        · exact h3 q hq
        · exact lt_tr (h3 q hq) (h7 _ rfl y hy)
    · rintro ⟨h1, h2, h3, h4⟩
      obtain ⟨h5, h6⟩ := List.pairwise_cons.1 h3
      exact ⟨⟨⟨h1 x (by simp), h2 x (by simp)⟩, fun q hq => h4 q hq x (by simp)⟩, fun y hy => h1 y (by simp [hy]), fun y hy => h2 y (by simp [hy]), h6, fun q hq y hy => by cases hq; exact h5 y hy⟩
theorem vRight_iff (xs : List Ent) : vRight xs = true ↔ LB xs ∧ NZ xs ∧ Rises xs := by
  rw [vRight, vRightGo_iff]
  simp
/-! ### put -/
theorem put_mem {name : ByteArray} {n : Int} : ∀ {xs : List Ent} {d : Bool} {y : Ent}, y ∈ putGo name n d xs → (y = ⟨name, n⟩ ∧ d = false) ∨ (y ∈ xs ∧ nm y.name ≠ nm name)
  | [], d, y, h => by
    cases d <;> simp [putGo] at h
    exact .inl ⟨h, rfl⟩
  | x :: xs, d, y, h => by
    rw [putGo, List.mem_append, List.mem_append] at h
    rcases h with (h | h) | h
    · cases d <;> cases hs : slt name x.name <;> simp [hs] at h
      exact .inl ⟨h, rfl⟩
    · by_cases e : nm x.name = nm name
      · simp [e] at h
      · simp [e] at h
        subst h
        exact .inr ⟨by simp, e⟩
    · rcases put_mem h with ⟨h1, h2⟩ | ⟨h1, h2⟩
      · refine .inl ⟨h1, ?_⟩
        cases d
        · rfl
        · simp at h2
      · exact .inr ⟨by simp [h1], h2⟩
theorem put_true (name : ByteArray) (n : Int) : ∀ xs : List Ent, (∀ x ∈ xs, nm x.name ≠ nm name) → putGo name n true xs = xs
  | [], _ => by simp [putGo]
  | x :: xs, h => by
    have : (nm x.name == nm name) = false := by simpa using h x (by simp)
    rw [putGo, this]
    simp [put_true name n xs fun y hy => h y (by simp [hy])]
theorem put_spec (name : ByteArray) (n : Int) : ∀ {xs : List Ent} {d : Bool}, Rises xs → Rises (putGo name n d xs) ∧ (∀ s, s ≠ nm name → G (putGo name n d xs) s = G xs s) ∧ (d = false → G (putGo name n d xs) (nm name) = n)
  | [], d, _ => by
    cases d
    · refine ⟨List.pairwise_singleton .., fun s hs => ?_, fun _ => ?_⟩
      · simp only [putGo, Bool.false_eq_true, if_false, G_cons, if_neg (Ne.symm hs)]
      · simp only [putGo, Bool.false_eq_true, if_false, G_cons, if_true]
    · exact ⟨List.Pairwise.nil, fun s _ => rfl, fun h => by cases h⟩
  | x :: xs, d, h => by
    obtain ⟨h1, h2⟩ := List.pairwise_cons.1 h
    obtain ⟨i1, i2, i3⟩ := put_spec name n (xs := xs) (d := d || slt name x.name) h2
    have hm := fun y (hy : y ∈ putGo name n (d || slt name x.name) xs) => put_mem hy
    by_cases hs : nm name < nm x.name
    · have hs' : slt name x.name = true := (slt_iff _ _).2 hs
      have he : (nm x.name == nm name) = false := by
        simp only [beq_eq_false_iff_ne, ne_eq]
        intro e
        exact lt_irr _ (e ▸ hs)
      have hall : ∀ y ∈ xs, nm y.name ≠ nm name := fun y hy e => lt_irr _ (lt_tr (e ▸ h1 y hy : nm x.name < nm name) hs)
      have hpt := put_true name n xs hall
      have hform : putGo name n d (x :: xs) = (if d then [] else [⟨name, n⟩]) ++ x :: xs := by
        rw [putGo, hs', he]
        cases d <;> simp [hpt]
      rw [hform]
      cases d
      · refine ⟨List.pairwise_cons.2 ⟨fun y hy => ?_, h⟩, fun s hne => ?_, fun _ => ?_⟩
        · rcases List.mem_cons.1 hy with rfl | hy
          · exact hs
          · exact lt_tr hs (h1 y hy)
        · simp only [Bool.false_eq_true, if_false, List.singleton_append]
          rw [G_cons, if_neg (Ne.symm hne)]
        · simp only [Bool.false_eq_true, if_false, List.singleton_append]
          rw [G_cons, if_pos rfl]
      · refine ⟨h, fun s _ => rfl, fun e => by cases e⟩
    · have hs' : slt name x.name = false := by rw [← Bool.not_eq_true, slt_iff]; exact hs
      rw [hs', Bool.or_false] at i1 i2 i3 hm
      by_cases e : nm x.name = nm name
      · have hform : putGo name n d (x :: xs) = putGo name n d xs := by
          rw [putGo, hs']
          simp [e]
        rw [hform]
        refine ⟨i1, fun s hne => ?_, i3⟩
        rw [i2 s hne, G_cons, if_neg (fun k => hne (k.symm.trans e))]
      · have hform : putGo name n d (x :: xs) = x :: putGo name n d xs := by
          rw [putGo, hs']
          simp [e]
        rw [hform]
        have hlt : nm x.name < nm name := by
          rcases lt_cases (nm x.name) (nm name) with l | l | l
          · exact l
          · exact absurd l e
          · exact absurd l hs
        refine ⟨List.pairwise_cons.2 ⟨fun y hy => ?_, i1⟩, fun s hne => ?_, fun hd => ?_⟩
        · rcases hm y hy with ⟨rfl, _⟩ | ⟨k, _⟩
          · exact hlt
          · exact h1 y k
        · rw [G_cons, G_cons, i2 s hne]
        · rw [G_cons, if_neg e, i3 hd]
theorem vPut_rises {xs : List Ent} (h : Rises xs) (name : ByteArray) (n : Int) : Rises (vPut xs name n) := (put_spec name n h).1
theorem put_true_G (name : ByteArray) (n : Int) : ∀ xs : List Ent, G (putGo name n true xs) (nm name) = 0 := fun xs =>
  G_none fun x hx => by
    rcases put_mem hx with ⟨_, h⟩ | ⟨_, h⟩
    · cases h
    · exact h
theorem vPut_G {xs : List Ent} (h : Rises xs) (name : ByteArray) (n : Int) (s : List UInt8) : G (vPut xs name n) s = if s = nm name then n else G xs s := by
  unfold vPut
  by_cases hs : s = nm name
  · subst hs
    rw [if_pos rfl]
    by_cases h0 : n = 0
    · rw [decide_eq_true h0, put_true_G, h0]
    · rw [decide_eq_false h0]
      exact (put_spec name n h).2.2 rfl
  · rw [if_neg hs]
    exact (put_spec name n h).2.1 s hs
theorem vPut_nz {xs : List Ent} (h : NZ xs) (name : ByteArray) (n : Int) : NZ (vPut xs name n) := fun y hy => by
  rcases put_mem hy with ⟨rfl, h0⟩ | ⟨k, _⟩
  · exact of_decide_eq_false h0
  · exact h y k
theorem vPut_lb {xs : List Ent} (h : LB xs) {name : ByteArray} (hn : lblB name = true) (n : Int) : LB (vPut xs name n) := fun y hy => by
  rcases put_mem hy with ⟨rfl, _⟩ | ⟨k, _⟩
  · exact hn
  · exact h y k
/-! ### made -/
theorem made_mem {f : List UInt8 → Option Int} {L : List (List UInt8)} {x : Ent} (h : x ∈ vMade f L) : nm x.name ∈ L ∧ x.n = (f (nm x.name)).getD 0 ∧ x.n ≠ 0 := by
  obtain ⟨s, hs, hx⟩ := List.mem_flatMap.1 h
  by_cases h0 : (f s).getD 0 = 0
  · simp [h0] at hx
  · rw [if_neg h0, List.mem_singleton] at hx
    subst hx
    exact ⟨hs, rfl, h0⟩
theorem made_spec (f : List UInt8 → Option Int) : ∀ {L : List (List UInt8)}, L.Pairwise (· < ·) → Rises (vMade f L) ∧ ∀ s, G (vMade f L) s = if s ∈ L then (f s).getD 0 else 0
  | [], _ => ⟨List.Pairwise.nil, fun s => by simp [vMade, G_nil]⟩
  | t :: L, h => by
    obtain ⟨h1, h2⟩ := List.pairwise_cons.1 h
    obtain ⟨i1, i2⟩ := made_spec f h2
    have hnt : t ∉ L := fun k => lt_irr _ (h1 t k)
    by_cases h0 : (f t).getD 0 = 0
    · have hform : vMade f (t :: L) = vMade f L := by simp [vMade, h0]
      rw [hform]
      refine ⟨i1, fun s => ?_⟩
      rw [i2 s]
      by_cases hs : s = t
      · subst hs
        rw [if_neg hnt, if_pos (by simp), h0]
      · simp [hs]
    · have hform : vMade f (t :: L) = ⟨ba t, (f t).getD 0⟩ :: vMade f L := by simp [vMade, h0]
      rw [hform]
      refine ⟨List.pairwise_cons.2 ⟨fun y hy => ?_, i1⟩, fun s => ?_⟩
      · rw [nm_ba]
        exact h1 _ (made_mem hy).1
      · rw [G_cons, nm_ba]
        by_cases hs : t = s
        · subst hs
          simp
        · rw [if_neg hs, i2 s]
          simp [Ne.symm hs]
theorem made_nz (f : List UInt8 → Option Int) (L : List (List UInt8)) : NZ (vMade f L) := fun _ h => (made_mem h).2.2
theorem sorted_lt {L : List (List UInt8)} (h : L.Nodup) : (L.mergeSort leB).Pairwise (· < ·) := by
  have tr1 : ∀ a b c : List UInt8, leB a b = true → leB b c = true → leB a c = true := fun a b c h1 h2 => by simp only [leB, decide_eq_true_eq] at *; exact List.le_trans h1 h2
  have to1 : ∀ a b : List UInt8, (leB a b || leB b a) = true := fun a b => by simp only [leB, Bool.or_eq_true, decide_eq_true_eq]; exact List.le_total a b
  have hp := List.pairwise_mergeSort tr1 to1 L
  have hn : (L.mergeSort leB).Nodup := (List.mergeSort_perm L leB).nodup_iff.2 h
  refine (hp.and hn).imp fun {a b} hab => ?_
  obtain ⟨h1, h2⟩ := hab
  have h1 : a ≤ b := by simpa [leB] using h1
  rcases lt_cases a b with l | l | l
  · exact l
  · exact absurd l h2
  · exact absurd l (List.not_lt.2 h1)
theorem sorted_mem {L : List (List UInt8)} (s : List UInt8) : s ∈ L.mergeSort leB ↔ s ∈ L := (List.mergeSort_perm L leB).mem_iff

/-! ### the vector of resources -/
theorem ba_nm (s : ByteArray) : ba (nm s) = s := nm_inj (nm_ba _)
theorem fold_put : ∀ (l : List Res) (v : List Ent) (f : List UInt8 → Option Int), Rises v → NZ v → LB v → (∀ s, G v s = (f s).getD 0) → l.any badR = false →
    Rises (l.foldl vStep v) ∧ NZ (l.foldl vStep v) ∧ LB (l.foldl vStep v) ∧ ∀ s, G (l.foldl vStep v) s = ((l.foldl fStep f) s).getD 0
  | [], v, f, h1, h2, h3, h4, _ => ⟨h1, h2, h3, h4⟩
  | x :: l, v, f, h1, h2, h3, h4, h5 => by
    rw [List.any_cons, Bool.or_eq_false_iff] at h5
    have hl : lblB x.name = true := by
      have := h5.1
      unfold badR at this
      rw [Bool.or_eq_false_iff] at this
      simpa using this.1
    rw [List.foldl_cons, List.foldl_cons]
    refine fold_put l _ _ (vPut_rises h1 _ _) (vPut_nz h2 _ _) (vPut_lb h3 hl _) (fun s => ?_) h5.2
    unfold vStep fStep upd
    rw [vPut_G h1, vGet_G, h4 (nm x.name)]
    by_cases hs : s = nm x.name
    · rw [if_pos hs, if_pos hs]; rfl
    · rw [if_neg hs, if_neg hs, h4]
theorem fold_spec {l : List Res} (h : l.any badR = false) : Rises (l.foldl vStep []) ∧ NZ (l.foldl vStep []) ∧ LB (l.foldl vStep []) ∧ ∀ s, G (l.foldl vStep []) s = (fOf l s).getD 0 :=
  fold_put l [] _ List.Pairwise.nil (fun _ h => by cases h) (fun _ h => by cases h) (fun _ => rfl) h
/-- both answers are one -/
theorem vOf_eq (l : List Res) : vOfP l = vOf l := by
  unfold vOfP vOf
  by_cases h : l.any badR = true
  · rw [if_pos h, if_pos h]
  · rw [if_neg h, if_neg h]
    by_cases h2 : 16 < l.length
    · rw [if_pos h2, if_pos h2]
    · rw [if_neg h2, if_neg h2]
      obtain ⟨h3, h4, _, h5⟩ := fold_spec (by simpa using h)
      obtain ⟨m1, m2⟩ := made_spec (fOf l) (sorted_lt (namesOf_nodup l))
      congr 1
      refine v_ext m1 h3 (made_nz _ _) h4 fun s => ?_
      rw [m2, h5]
      by_cases hs : s ∈ (namesOf l).mergeSort leB
      · rw [if_pos hs]
      · rw [if_neg hs]
        have : ¬ (fOf l s).isSome = true := fun k => hs ((sorted_mem s).2 ((namesOf_mem l s).2 k))
        cases hf : fOf l s with
        | none => rfl
        | some _ => rw [hf] at this; simp at this
theorem vOf_right {l : List Res} (h : (vOf l).2 = 0) : vRight (vOf l).1 = true := by
  unfold vOf at h ⊢
  by_cases h1 : l.any badR = true
  · simp [h1] at h
  · rw [if_neg h1] at h ⊢
    by_cases h2 : 16 < l.length
    · simp [h2] at h
    · rw [if_neg h2]
      obtain ⟨a, b, c, _⟩ := fold_spec (by simpa using h1)
      exact (vRight_iff _).2 ⟨c, b, a⟩
/-! ### sums and differences -/
theorem hOf_get (h : ByteArray → Int) : ∀ (l : List Ent) (f : List UInt8 → Option Int) (s : List UInt8), (l.foldl (hStep h) f) s = if s ∈ l.map (fun x => nm x.name) then some (h (ba s)) else f s
  | [], f, s => by simp
  | x :: l, f, s => by
    rw [List.foldl_cons, hOf_get h l, List.map_cons]
    unfold hStep upd
    by_cases h1 : s ∈ l.map (fun x => nm x.name)
    · rw [if_pos h1, if_pos (List.mem_cons_of_mem _ h1)]
    · rw [if_neg h1]
      by_cases h2 : s = nm x.name
      · rw [if_pos h2, if_pos (by simp [h2]), h2, ba_nm]
      · rw [if_neg h2, if_neg (by simp only [List.mem_cons, not_or]; exact ⟨h2, h1⟩)]
theorem wOk0 : wOk 0 = true := by decide
/-- what both comes to: a vector that may be, and of each name has what h tells; or the error -/
theorem both_spec {h : List UInt8 → Int} {a b : List Ent} (hz : ∀ s, G a s = 0 → G b s = 0 → h s = 0) (ha : vRight a = true) (hb : vRight b = true) :
    ((∀ s, wOk (h s) = true) → ∃ r, bothH (fun s => h (nm s)) a b = (r, 0) ∧ vRight r = true ∧ ∀ s, G r s = h s) ∧
    ((∃ s, wOk (h s) = false) → bothH (fun s => h (nm s)) a b = ([], 3)) := by
  obtain ⟨a1, a2, a3⟩ := (vRight_iff a).1 ha
  obtain ⟨b1, b2, b3⟩ := (vRight_iff b).1 hb
  have hout : ∀ s, s ∉ (a ++ b).map (fun x => nm x.name) → h s = 0 := fun s hs => hz s
    (G_none fun x hx e => hs (List.mem_map.2 ⟨x, List.mem_append_left _ hx, e⟩)) (G_none fun x hx e => hs (List.mem_map.2 ⟨x, List.mem_append_right _ hx, e⟩))
  constructor
  · intro hw
    have hno : (a ++ b).any (fun x => !wOk (h (nm x.name))) = false := by
      rw [List.any_eq_false]
      intro x _
      simp [hw]
    obtain ⟨m1, m2⟩ := made_spec (hOf (fun s => h (nm s)) (a ++ b)) (sorted_lt (namesE_nodup (a ++ b)))
    refine ⟨_, by simp only [bothH, ha, hb, Bool.and_self, if_true, hno, Bool.false_eq_true, if_false], (vRight_iff _).2 ⟨fun x hx => ?_, made_nz _ _, m1⟩, fun s => ?_⟩
    · have := (sorted_mem _).1 (made_mem hx).1
      rw [namesE, dd_mem] at this
      obtain ⟨y, hy, e⟩ := List.mem_map.1 this
      rw [← nm_inj e]
      rcases List.mem_append.1 hy with hy | hy
      · exact a1 y hy
      · exact b1 y hy
    · rw [m2, hOf, hOf_get, namesE]
      by_cases hs : s ∈ (a ++ b).map (fun x => nm x.name)
      · rw [if_pos hs, if_pos ((sorted_mem s).2 ((dd_mem s _).2 hs))]
        rfl
      · rw [if_neg fun k => hs ((dd_mem s _).1 ((sorted_mem s).1 k)), hout s hs]
  · rintro ⟨s, hs⟩
    have hin : s ∈ (a ++ b).map (fun x => nm x.name) := by
      by_cases k : s ∈ (a ++ b).map (fun x => nm x.name)
      · exact k
      · rw [hout s k, wOk0] at hs
        cases hs
    obtain ⟨x, hx, rfl⟩ := List.mem_map.1 hin
    have hyes : (a ++ b).any (fun x => !wOk (h (nm x.name))) = true := List.any_eq_true.2 ⟨x, hx, by simp [hs]⟩
    simp only [bothH, ha, hb, Bool.and_self, if_true, hyes]
def vAdd (a b : List Ent) : List Ent × Int := bothH (fun s => vGet a s + vGet b s) a b
def vSub (a b : List Ent) : List Ent × Int := bothH (fun s => vGet a s - vGet b s) a b
theorem add_ok {a b : List Ent} (ha : vRight a = true) (hb : vRight b = true) (hw : ∀ s, wOk (G a s + G b s) = true) : ∃ r, vAdd a b = (r, 0) ∧ vRight r = true ∧ ∀ s, G r s = G a s + G b s :=
  (both_spec (h := fun s => G a s + G b s) (fun s h1 h2 => by rw [h1, h2]; rfl) ha hb).1 hw
theorem add_full {a b : List Ent} (ha : vRight a = true) (hb : vRight b = true) (hw : ∃ s, wOk (G a s + G b s) = false) : vAdd a b = ([], 3) :=
  (both_spec (h := fun s => G a s + G b s) (fun s h1 h2 => by rw [h1, h2]; rfl) ha hb).2 hw
theorem sub_ok {a b : List Ent} (ha : vRight a = true) (hb : vRight b = true) (hw : ∀ s, wOk (G a s - G b s) = true) : ∃ r, vSub a b = (r, 0) ∧ vRight r = true ∧ ∀ s, G r s = G a s - G b s :=
  (both_spec (h := fun s => G a s - G b s) (fun s h1 h2 => by rw [h1, h2]; rfl) ha hb).1 hw
theorem sub_full {a b : List Ent} (ha : vRight a = true) (hb : vRight b = true) (hw : ∃ s, wOk (G a s - G b s) = false) : vSub a b = ([], 3) :=
  (both_spec (h := fun s => G a s - G b s) (fun s h1 h2 => by rw [h1, h2]; rfl) ha hb).2 hw
theorem both_arg {h : ByteArray → Int} {a b : List Ent} (hn : (vRight a && vRight b) = false) : bothH h a b = ([], 1) := by
  simp only [bothH, hn, Bool.false_eq_true, if_false]
theorem all_or {p : List UInt8 → Bool} : (∀ s, p s = true) ∨ ∃ s, p s = false := by
  by_cases h : ∃ s, p s = false
  · exact .inr h
  · exact .inl fun s => by rw [← Bool.not_eq_false]; exact fun k => h ⟨s, k⟩
theorem v_eq {a b : List Ent} (ha : vRight a = true) (hb : vRight b = true) (h : ∀ s, G a s = G b s) : a = b := by
  obtain ⟨_, a2, a3⟩ := (vRight_iff a).1 ha
  obtain ⟨_, b2, b3⟩ := (vRight_iff b).1 hb
  exact v_ext a3 b3 a2 b2 h
theorem G_wOk {a : List Ent} (h : VFine a) (s : List UInt8) : wOk (G a s) = true := by
  by_cases h0 : G a s = 0
  · rw [h0]; exact wOk0
  · unfold G vGet at h0 ⊢
    cases hf : a.find? (fun x => nm x.name == nm (ba s)) with
    | none => exact wOk0
    | some x => exact (h x (List.mem_of_find?_eq_some hf)).2
/-- what an addition can come to -/
theorem add_cases {a b : List Ent} : (vRight a = true ∧ vRight b = true ∧ (∀ s, wOk (G a s + G b s) = true) ∧ ∃ r, vAdd a b = (r, 0) ∧ vRight r = true ∧ ∀ s, G r s = G a s + G b s) ∨ vAdd a b = ([], 3) ∨ vAdd a b = ([], 1) := by
  cases h : (vRight a && vRight b)
  · exact .inr (.inr (both_arg h))
  · rw [Bool.and_eq_true] at h
    rcases all_or (p := fun s => wOk (G a s + G b s)) with hw | hw
    · exact .inl ⟨h.1, h.2, hw, add_ok h.1 h.2 hw⟩
    · exact .inr (.inl (add_full h.1 h.2 hw))
theorem vAdd_comm (a b : List Ent) : vAdd a b = vAdd b a := by
  cases h : (vRight a && vRight b)
  · rw [vAdd, vAdd, both_arg h, both_arg (by rw [Bool.and_comm]; exact h)]
  · rw [Bool.and_eq_true] at h
    rcases all_or (p := fun s => wOk (G a s + G b s)) with hw | hw
    · obtain ⟨r, e, h1, h2⟩ := add_ok h.1 h.2 hw
      obtain ⟨r', e', h1', h2'⟩ := add_ok h.2 h.1 (fun s => by rw [Int.add_comm]; exact hw s)
      rw [e, e', v_eq h1 h1' fun s => by rw [h2, h2', Int.add_comm]]
    · rw [add_full h.1 h.2 hw, add_full h.2 h.1 (by obtain ⟨s, hs⟩ := hw; exact ⟨s, by rw [Int.add_comm]; exact hs⟩)]
theorem sub_back {a b x : List Ent} (ha : vRight a = true) (hb : vRight b = true) (hx : vRight x = true) (hf : VFine a) (h : ∀ s, G x s = G a s + G b s) : vSub x b = (a, 0) := by
  have e1 : ∀ s, G x s - G b s = G a s := fun s => by rw [h]; omega
  obtain ⟨r, e, h1, h2⟩ := sub_ok hx hb (fun s => by rw [e1]; exact G_wOk hf s)
  rw [e, v_eq h1 ha fun s => by rw [h2, e1]]
theorem add_assoc {a b c x z w o : List Ent} (h1 : vAdd a b = (x, 0)) (h2 : vAdd x c = (w, 0)) (h3 : vAdd b c = (z, 0)) (h4 : vAdd a z = (o, 0)) : w = o := by
  have key : ∀ {p q r : List Ent}, vAdd p q = (r, 0) → vRight r = true ∧ ∀ s, G r s = G p s + G q s := by
    intro p q r h
    rcases add_cases (a := p) (b := q) with ⟨_, _, _, r', e, k1, k2⟩ | e | e
    · rw [h] at e
      cases e
      exact ⟨k1, k2⟩
    · rw [h] at e; simp at e
    · rw [h] at e; simp at e
  obtain ⟨_, g1⟩ := key h1
  obtain ⟨r2, g2⟩ := key h2
  obtain ⟨_, g3⟩ := key h3
  obtain ⟨r4, g4⟩ := key h4
  exact v_eq r2 r4 fun s => by rw [g2, g1, g4, g3]; omega
/-! ### within -/
theorem cmp_pos (a b : Int) : 0 < cmpI a b ↔ b < a := by
  unfold cmpI
  repeat' split
  all_goals omega
theorem within_go {v : List Ent} : ∀ {h : List Ent}, (∀ x ∈ h, G v (nm x.name) ≤ x.n) → vWithinGo v h = (true, ⟨#[]⟩)
  | [], _ => rfl
  | x :: xs, k => by
    have : ¬ 0 < cmpI (vGet v x.name) x.n := by
      rw [cmp_pos, vGet_G]
      have := k x (by simp)
      omega
    rw [vWithinGo, if_neg this, within_go fun y hy => k y (by simp [hy])]
theorem within_no {v : List Ent} : ∀ {h : List Ent}, (vWithinGo v h).1 = false → ∃ l1 x l2, h = l1 ++ x :: l2 ∧ (vWithinGo v h).2 = x.name ∧ x.n < G v (nm x.name) ∧ ∀ y ∈ l1, G v (nm y.name) ≤ y.n
  | [], k => by simp [vWithinGo] at k
  | x :: xs, k => by
    rw [vWithinGo] at k ⊢
    by_cases hc : 0 < cmpI (vGet v x.name) x.n
    · rw [if_pos hc]
      rw [cmp_pos, vGet_G] at hc
      exact ⟨[], x, xs, rfl, rfl, hc, fun y hy => by cases hy⟩
    · rw [if_neg hc] at k ⊢
      obtain ⟨l1, y, l2, rfl, h2, h3, h4⟩ := within_no k
      rw [cmp_pos, vGet_G] at hc
      refine ⟨x :: l1, y, l2, rfl, h2, h3, fun z hz => ?_⟩
      rcases List.mem_cons.1 hz with rfl | hz
      · omega
      · exact h4 z hz
theorem within_yes {v : List Ent} : ∀ {h : List Ent}, (vWithinGo v h).1 = true → (vWithinGo v h).2 = ⟨#[]⟩ ∧ ∀ x ∈ h, G v (nm x.name) ≤ x.n
  | [], _ => ⟨rfl, fun _ h => by cases h⟩
  | x :: xs, k => by
    rw [vWithinGo] at k ⊢
    by_cases hc : 0 < cmpI (vGet v x.name) x.n
    · rw [if_pos hc] at k
      cases k
    · rw [if_neg hc] at k ⊢
      obtain ⟨h1, h2⟩ := within_yes k
      rw [cmp_pos, vGet_G] at hc
      refine ⟨h1, fun z hz => ?_⟩
      rcases List.mem_cons.1 hz with rfl | hz
      · omega
      · exact h2 z hz
theorem within_own {a : List Ent} (h : vRight a = true) : vWithin a a = (true, ⟨#[]⟩) := by
  obtain ⟨_, _, h3⟩ := (vRight_iff a).1 h
  simp only [vWithin, h, Bool.and_self, if_true]
  exact within_go fun x hx => by rw [G_mem h3 hx]; omega
end Go.Proofs.YtgjlgpaoilaikaaGreatDoor
