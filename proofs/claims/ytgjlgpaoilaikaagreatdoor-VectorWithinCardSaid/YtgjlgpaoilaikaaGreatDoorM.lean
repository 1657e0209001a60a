/-
  Common words: maps: a map's block that says just what a function of the keys says.
-/
import Derived.Test.YtgjlgpaoilaikaaGreatDoorBase3
import Derived.Maps.OwnSet
import Derived.Maps.OwnOps
import Derived.Maps.Views
import Derived.Sort.KeysCollected
namespace Go.Proofs.YtgjlgpaoilaikaaGreatDoor
open Go.RowKit Go.Maps

abbrev DV := DataW Value
/-- an element reads as itself -/
def RV (v : Value) : Option (DV × List MemPlace) := some (.held v, [])
def MapIs {κ β : Type} (kt : TypeId) (kl : κ → Lit) (enc : β → Value) (w : World) (b n : Nat) (f : κ → Option β) : Prop :=
  ∃ D : DV, w.ownsMap Tryz.prog kt RV b n D ∧ (∀ s z, D.atKey (kl s) z = (f s).elim z (fun x => .held (enc x))) ∧ (∀ s, has D (kl s) = (f s).isSome)
def upd {κ β : Type} [DecidableEq κ] (f : κ → Option β) (s : κ) (x : Option β) : κ → Option β := fun s' => if s' = s then x else f s'

section
variable {κ β : Type} {kt : TypeId} {kl : κ → Lit} {enc : β → Value} {w w' : World} {b n : Nat} {f : κ → Option β}
theorem MapIs.made (w : World) : MapIs kt kl enc (w.alloc (.map #[] 0)) w.heap.size 0 (fun _ => none) :=
  ⟨.map [], World.ownsMap_made w _ _ _, fun _ _ => rfl, fun _ => rfl⟩
theorem MapIs.lt (h : MapIs kt kl enc w b n f) : b < w.heap.size := h.elim fun _ h => h.1.lt
theorem MapIs.mono (h : MapIs kt kl enc w b n f) {n' : Nat} (hn : n ≤ n') : MapIs kt kl enc w b n' f := h.elim fun D h => ⟨D, h.1.mono hn, h.2⟩
theorem MapIs.kept {row : Option Nat} (h : MapIs kt kl enc w b n f) (hg : w.grownBy w' row) (hne : some b ≠ row) : MapIs kt kl enc w' b n f := h.elim fun D h => ⟨D, h.1.kept hg hne, h.2⟩
theorem MapIs.below (h : MapIs kt kl enc w b n f) (hb : Below w.heap.size w w') : MapIs kt kl enc w' b n f := h.kept (grown_of_below' hb none) (by simp)
theorem MapIs.setCell (h : MapIs kt kl enc w b n f) {a : Addr} (ha : b ≠ a.block) (u : Value) : MapIs kt kl enc (w.setCell a u) b n f := h.elim fun D h => ⟨D, h.1.setCell ha u, h.2⟩
theorem MapIs.same (h : MapIs kt kl enc w b n f) (hh : w'.heap[b]? = w.heap[b]?) : MapIs kt kl enc w' b n f := by
  obtain ⟨D, ⟨es, clock, hb, r⟩, h2⟩ := h
  exact ⟨D, ⟨es, clock, hh.trans hb, r⟩, h2⟩
theorem MapIs.look (h : MapIs kt kl enc w b n f) (K : Keyed Tryz.prog kt) {t e : TypeId} (ht : Tryz.prog.underlying t = some (.map kt e)) {z : Value} (hz : (zeroValue e).run Tryz.prog w = .ok z w) {key : Value} {s : κ} (hkey : keyOf Tryz.prog kt key = some (kl s)) :
    (Instr.lookup t (.map (some b)) key false).run Tryz.prog w = .ok ((f s).elim z enc) w := by
  obtain ⟨D, h1, h2, _⟩ := h
  obtain ⟨v, ps, hrun, hv⟩ := h1.lookup K ht hz (zd := .held z) (zp := []) rfl hkey
  rw [hrun]
  simp only [RV, Option.some.injEq, Prod.mk.injEq] at hv
  have := hv.1
  rw [h2] at this
  cases hf : f s with
  | none => rw [hf] at this; cases this; rfl
  | some x => rw [hf] at this; cases this; rfl
theorem MapIs.look2 (h : MapIs kt kl enc w b n f) (K : Keyed Tryz.prog kt) {t e : TypeId} (ht : Tryz.prog.underlying t = some (.map kt e)) {z : Value} (hz : (zeroValue e).run Tryz.prog w = .ok z w) {key : Value} {s : κ} (hkey : keyOf Tryz.prog kt key = some (kl s)) :
    (Instr.lookup t (.map (some b)) key true).run Tryz.prog w = .ok (.tuple #[(f s).elim z enc, .bool (f s).isSome]) w := by
  obtain ⟨D, h1, h2, h3⟩ := h
  obtain ⟨v, ps, hrun, hv⟩ := h1.look_ok K ht hz (zd := .held z) (zp := []) rfl hkey
  rw [hrun, h3]
  simp only [RV, Option.some.injEq, Prod.mk.injEq] at hv
  have := hv.1
  rw [h2] at this
  cases hf : f s with
  | none => rw [hf] at this; cases this; rfl
  | some x => rw [hf] at this; cases this; rfl
theorem MapIs.store [DecidableEq κ] (h : MapIs kt kl enc w b n f) (K : Keyed Tryz.prog kt) {t e : TypeId} (ht : Tryz.prog.underlying t = some (.map kt e)) (hn : n < maxLen) {key : Value} {s : κ} (hkey : keyOf Tryz.prog kt key = some (kl s)) (hi : ∀ s', kl s' = kl s → s' = s) (x : β) :
    ∃ w', (Instr.mapUpdate t (.map (some b)) key (enc x)).run Tryz.prog w = .ok () w' ∧ MapIs kt kl enc w' b (n + 1) (upd f s (some x)) ∧ w.mapTurned w' b := by
  obtain ⟨D, h1, h2, h3⟩ := h
  obtain ⟨w', hrun, h4, h5⟩ := h1.store K ht hn hkey (val := enc x) (d := .held (enc x)) (ps := []) rfl
  have hm := h1.isMap
  have hk := K.key hkey
  refine ⟨w', hrun, ⟨_, h4, fun s' z => ?_, fun s' => ?_⟩, h5⟩
  · by_cases hs : s' = s
    · subst hs
      rw [atKey_put_same hm hk]
      simp [upd]
    · rw [atKey_put_other (fun e => hs (hi s' e)), h2]
      simp [upd, hs]
  · by_cases hs : s' = s
    · subst hs
      rw [has_put_same hm hk]
      simp [upd]
    · rw [has_put_other (fun e => hs (hi s' e)), h3]
      simp [upd, hs]
theorem MapIs.drop [DecidableEq κ] (h : MapIs kt kl enc w b n f) (K : Keyed Tryz.prog kt) {t e : TypeId} (ht : Tryz.prog.underlying t = some (.map kt e)) {key : Value} {s : κ} (hkey : keyOf Tryz.prog kt key = some (kl s)) (hi : ∀ s', kl s' = kl s → s' = s) (ty : TypeId) :
    ∃ w', (Builtin.delete_ #[t, kt] ty #[.map (some b), key]).run Tryz.prog w = .ok (.tuple #[]) w' ∧ MapIs kt kl enc w' b n (upd f s none) ∧ w.mapTurned w' b := by
  obtain ⟨D, h1, h2, h3⟩ := h
  obtain ⟨w', hrun, h4, h5⟩ := h1.drop K ht hkey ty
  refine ⟨w', hrun, ⟨_, h4, fun s' z => ?_, fun s' => ?_⟩, h5⟩
  · by_cases hs : s' = s
    · subst hs
      rw [atKey_del_same]
      simp [upd]
    · rw [atKey_del_other (fun e => hs (hi s' e)), h2]
      simp [upd, hs]
  · by_cases hs : s' = s
    · subst hs
      rw [has_del_same]
      simp [upd]
    · rw [has_del_other (fun e => hs (hi s' e)), h3]
      simp [upd, hs]
end

/-- a new block of a call is written: what was there before is as it was -/
theorem turned_below {B : Nat} {w W W2 : World} {b : Nat} (h : Below B w W) (hb : B ≤ b) (ht : W.mapTurned W2 b) : Below B w W2 := by
  have hg := ht.grown
  obtain ⟨h1, h2, h3, h4, h5⟩ := h
  refine ⟨hg.os.trans h1, hg.tape.trans h2, hg.output.trans h3, Nat.le_trans h4 hg.size, fun k hk => ?_⟩
  obtain ⟨es, clock, _, _, hb2, _⟩ := ht
  have hl := (Array.getElem?_eq_some_iff.1 hb2).1
  exact (hg.block k (by omega) (by simp; omega)).trans (h5 k hk)
/-- a cell of another block -/
theorem turned_cell {W W2 : World} {b : Nat} {a : Addr} {v : Value} (ht : W.mapTurned W2 b) (hb : a.block ≠ b) (h : W.cell? a = some v) : W2.cell? a = some v := by
  rw [World.cell?_of_block (ht.grown.block a.block (World.block_lt_of_cell? W a h) (by simpa using hb))]
  exact h

/-- the keys, sorted, of a map that has strings for keys -/
theorem MapIs.sorted {β : Type} {kt : TypeId} (hk : Tryz.prog.underlying kt = some .string) {enc : β → Value} {w : World} {b n : Nat} {f : List UInt8 → Option β} (h : MapIs kt Lit.string enc w b n f) {L : List (List UInt8)} (hL : L.Nodup) (hm : ∀ x, x ∈ L ↔ (f x).isSome = true) :
    ∃ D : DV, w.ownsMap Tryz.prog kt RV b n D ∧ Maps.size D = L.length ∧ ∀ ss : List (List UInt8), ss.Perm (strKeys D) → ss.mergeSort leB = L.mergeSort leB ∧ ss.length = L.length := by
  obtain ⟨D, h1, _, h3⟩ := h
  obtain ⟨es, hD, hpw, _⟩ := h1.entries (string_keyed hk)
  obtain ⟨es', hD', hko⟩ := h1.keysOf
  obtain rfl : es = es' := by rw [hD] at hD'; simpa using hD'
  have hp : L.Perm (strKeys D) := by
    subst hD
    exact perm_strKeys hpw (fun p hp => by obtain ⟨v, hv⟩ := hko p hp; obtain ⟨x, _, hx, _⟩ := Maps.keyOf_str hk hv; exact ⟨x, hx⟩) hL (fun x => by rw [h3, hm])
  refine ⟨D, h1, ?_, fun ss hs => ⟨mergeSort_of_perm (hs.trans hp.symm), (hs.trans hp.symm).length_eq⟩⟩
  rw [hp.length_eq, hD]
  simp [Maps.size, strKeys]
end Go.Proofs.YtgjlgpaoilaikaaGreatDoor
