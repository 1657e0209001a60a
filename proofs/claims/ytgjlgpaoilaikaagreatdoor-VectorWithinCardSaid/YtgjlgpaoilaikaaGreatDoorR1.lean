/-
  What the listed variables hold, out of the rows' condition.
-/
import Derived.Test.YtgjlgpaoilaikaaGreatDoorR0
namespace Go.Proofs.YtgjlgpaoilaikaaGreatDoor
open Go.ChangeShapes Go.WideShapes Go.ChangeAt Go.RowKit

theorem own : ownKnob Tryz.prog.godebug = none := by kernel_rfl
theorem laidOut : laidOutB Tryz.prog = true := by kernel_rfl
def sufD : DataW Unit := .agg (sufs.map fun x => .agg [.lit (.string x.1), .lit (.int .i64 x.2)])
theorem suf_of {W : World} {r : List (String × DataW Unit)} (h : laidMet Tryz.prog (("scutage/quantity.suffixes", sufD) :: r) W) : ∃ t, W.heap[0]? = some (.cells sufC t (0, 0)) := by
  obtain ⟨ps, ⟨g, t, cs, fuel, p, q, hg, ht, hv, hd, _, hps⟩, _, hrows⟩ := h
  obtain rfl := Option.some.inj ((show Tryz.prog.globalNamed "scutage/quantity.suffixes" = some 0 by kernel_rfl).symm.trans hg)
  obtain rfl := Option.some.inj ((show (Tryz.prog.globals[0]?).map (·.type) = some 114 by kernel_rfl).symm.trans ht)
  obtain ⟨xs, m, _, ex, hcl, hl, hel⟩ := DataW.trod_array Tryz.underlying114 hd
  have c2 : Tryz.prog.cellsOf 113 = 2 := by kernel_rfl
  have c18 : Tryz.prog.cellsOf 114 = 18 := by kernel_rfl
  have c9 : Tryz.prog.cellsOf 9 = 1 := by kernel_rfl
  have c8 : Tryz.prog.cellsOf 2 = 1 := by kernel_rfl
  rw [c18] at hcl
  have hx : xs.map (·.1) = sufs.map fun x => (DataW.agg [.lit (.string x.1), .lit (.int .i64 x.2)] : DataW Unit) := (DataW.agg.inj (Prod.mk.inj ex).1).symm
  have hcell : ∀ k, k < 9 → cs.toList[k * 2]? = some (.string (sufN k)) ∧ cs.toList[k * 2 + 1]? = some (.int .i64 (sufF k)) := by
    intro k hk
    have h1 := hel k hk
    rw [c2, List.getElem?_eq_getElem (by omega)] at h1
    obtain ⟨ys, n, _, ey, hyl, hy2, hf⟩ := DataW.trod_struct Tryz.underlying113 h1
    have h2 : (xs.map (·.1))[k]? = (sufs.map fun x => (DataW.agg [.lit (.string x.1), .lit (.int .i64 x.2)] : DataW Unit))[k]? := by rw [hx]
    have hsl : sufs.length = 9 := rfl
    rw [List.getElem?_map, List.getElem?_map, List.getElem?_eq_getElem (by omega : k < xs.length), List.getElem?_eq_getElem (by omega : k < sufs.length), ey] at h2
    simp only [Option.map_some, Option.some.injEq, DataW.agg.injEq] at h2
    have f0 : DataW.trod (fun _ => ()) Tryz.prog W 0 (fun _ => true) false n 9 ((((cs.toList.drop (k * 2)).take 2).drop 0).take (Tryz.prog.cellsOf 9)) = ys[0]? := hf 0 _ rfl
    have f1 : DataW.trod (fun _ => ()) Tryz.prog W 0 (fun _ => true) false n 2 ((((cs.toList.drop (k * 2)).take 2).drop 1).take (Tryz.prog.cellsOf 2)) = ys[1]? := hf 1 _ rfl
    rw [c9] at f0
    rw [c8] at f1
    obtain ⟨y0, hy0⟩ : ∃ y0, ys[0]? = some y0 := ⟨_, List.getElem?_eq_getElem (by rw [hy2]; decide)⟩
    obtain ⟨y1, hy1⟩ : ∃ y1, ys[1]? = some y1 := ⟨_, List.getElem?_eq_getElem (by rw [hy2]; decide)⟩
    rw [hy0] at f0
    rw [hy1] at f1
    obtain ⟨s, e0, e0', _⟩ := DataW.trod_string Tryz.underlying9 f0
    obtain ⟨z, e1, e1', _⟩ := DataW.trod_int Tryz.underlying2 f1
    have q0 : (ys.map (·.1))[0]? = some (.lit (.string (sufs[k]'(by omega)).1)) := by rw [h2]; rfl
    have q1 : (ys.map (·.1))[1]? = some (.lit (.int .i64 (sufs[k]'(by omega)).2)) := by rw [h2]; rfl
    rw [List.getElem?_map, hy0, e0'] at q0
    rw [List.getElem?_map, hy1, e1'] at q1
    simp only [Option.map_some, Option.some.injEq, DataW.lit.injEq, Lit.string.injEq, Lit.int.injEq, true_and] at q0 q1
    have hsn : sufN k = s := by
      apply nm_inj
      show ((sufs.getD k ([], 0)).1) = s.data.toList
      rw [q0, List.getD, List.getElem?_eq_getElem (by omega)]
      rfl
    have hsf : sufF k = z := by
      unfold sufF
      rw [q1, List.getD, List.getElem?_eq_getElem (by omega)]
      rfl
    rw [hsn, hsf]
    have g0 : ((((cs.toList.drop (k * 2)).take 2).drop 0).take 1)[0]? = some (.string s) := by rw [e0]; rfl
    have g1 : ((((cs.toList.drop (k * 2)).take 2).drop 1).take 1)[0]? = some (.int .i64 z) := by rw [e1]; rfl
    exact ⟨by simpa using g0, by simpa [Nat.add_comm] using g1⟩
  have hcs : cs = sufC := by
    have hlen : cs.size = 18 := by simpa using hcl
    apply Array.ext
    · rw [hlen]; rfl
    · intro i h1 h2
      have key : cs.toList[i]? = sufC[i]? := by
        have hi : i < 18 := by omega
        obtain ⟨k, hk⟩ : ∃ k, i = k * 2 ∨ i = k * 2 + 1 := ⟨i / 2, by omega⟩
        have hk9 : k < 9 := by omega
        obtain ⟨a0, a1⟩ := hcell k hk9
        have tab : ∀ k, k < 9 → sufC[k * 2]? = some (.string (sufN k)) ∧ sufC[k * 2 + 1]? = some (.int .i64 (sufF k)) := by
          intro k hk
          match k, hk with
          | 0, _ => exact ⟨rfl, rfl⟩
          | 1, _ => exact ⟨rfl, rfl⟩
          | 2, _ => exact ⟨rfl, rfl⟩
          | 3, _ => exact ⟨rfl, rfl⟩
          | 4, _ => exact ⟨rfl, rfl⟩
          | 5, _ => exact ⟨rfl, rfl⟩
          | 6, _ => exact ⟨rfl, rfl⟩
          | 7, _ => exact ⟨rfl, rfl⟩
          | 8, _ => exact ⟨rfl, rfl⟩
          | k + 9, h => exact absurd h (by omega)
        obtain ⟨b0, b1⟩ := tab k hk9
        rcases hk with rfl | rfl
        · rw [a0, b0]
        · rw [a1, b1]
      rw [Array.getElem?_toList, Array.getElem?_eq_getElem h1, Array.getElem?_eq_getElem h2] at key
      exact Option.some.inj key
  obtain ⟨⟨c, t, hh⟩, _⟩ := hrows 0 0 (by rw [hps, ← Array.length_toList, hcl]; simp [MemPlace.row])
  have h0 := World.var?_cell (show Tryz.prog.globalNamed "scutage/quantity.suffixes" = some 0 by kernel_rfl) hv
  have hcc : c = cs := by
    unfold World.var? at hv
    rw [show Tryz.prog.globalNamed "scutage/quantity.suffixes" = some 0 by kernel_rfl] at hv
    simp [hh] at hv
    exact hv
  exact ⟨t, by rw [hh, hcc, hcs]⟩
theorem star : ("*errors.errorString" : String) = "*" ++ "errors.errorString" := by decide
theorem rowErr (u : TypeId) (h : Tryz.prog.typeName? 3 u = some "*errors.errorString") : u = 163 :=
  typeName_ptr_named (nm := "errors.errorString") (by rw [← star]; kernel_rfl) (by kernel_rfl) (by decide) u (by rw [← star]; exact h)
theorem glob_of {W : World} {a b c d f : String × DataW Unit} {r : List (String × DataW Unit)} (h : laidMet Tryz.prog (a :: b :: c :: d :: ("strconv.ErrRange", .iface "*errors.errorString" (.ptr (.agg [.lit (.string [118, 97, 108, 117, 101, 32, 111, 117, 116, 32, 111, 102, 32, 114, 97, 110, 103, 101])]))) :: f :: ("scutage/quantity.suffixes", sufD) :: r) W) (hs : W.ShapedOpen Tryz.prog) : Glob W := by
  have h5 := h.tail.tail.tail.tail
  have h7 := h5.tail.tail
  refine ⟨suf_of h7, ?_, ?_⟩
  · exact cell_of_shapedOpen_int (g := 3) (t := 3) (k := .i64) hs (of_decide_eq_true (by kernel_rfl)) (zero := #[.int .i64 0]) (by kernel_rfl) rfl (by kernel_rfl) (by kernel_rfl) Tryz.underlying3
  · obtain ⟨a0, s0, hv, _⟩ := laid_sentinel h5 (show Tryz.prog.globalNamed "strconv.ErrRange" = some 5 by kernel_rfl) (show (Tryz.prog.globals[5]?).map (·.type) = some 91 by kernel_rfl) Tryz.underlying91 rowErr Tryz.underlying163 Tryz.underlying165 rfl rfl Tryz.underlying9 (by kernel_rfl) (by kernel_rfl)
    have := World.var?_cell (show Tryz.prog.globalNamed "strconv.ErrRange" = some 5 by kernel_rfl) hv 0
    exact ⟨_, _, by simpa using this⟩
end Go.Proofs.YtgjlgpaoilaikaaGreatDoor
