/-
  What the four listed variables hold when a law's call begins.
-/
import Derived.Test.YtalnmednhhimhaaDoorLaid
import Derived.Test.YtalnmednhhimhaaDoorRailC
set_option linter.all false
namespace Go.Proofs.YtalnmednhhimhaaDoor
open Go Go.Sl Go.RowKit Go.Bonsai
open Go.ChangeShapes Go.WideShapes Go.ChangeAt
set_option linter.unusedVariables false
set_option linter.unusedSimpArgs false
theorem gTz : Tryd.prog.globalNamed "math/bits.deBruijn64tab" = some 2 := by kernel_rfl
theorem tTz : (Tryd.prog.globals[2]?).map (·.type) = some 149 := by kernel_rfl
theorem cel64 : Tryd.prog.cellsOf 149 = 64 := by kernel_rfl
theorem celU8 : Tryd.prog.cellsOf 5 = 1 := by kernel_rfl
def laid4 : List (String × DataW Unit) := [("math/bits.deBruijn32tab", Rows.laid_math_bits_deBruijn32tab), ("math/bits.deBruijn64tab", Rows.laid_math_bits_deBruijn64tab), ("internal/strconv.uint64pow10", Rows.laid_internal_strconv_uint64pow10), ("bonsai/tree.counts", Rows.laid_bonsai_tree_counts)]
theorem door_met4 (os : Os) (args : Array Value) : laidMetH Tryd.prog laid4 ((World.doorLaid Tryd.prog 400 os).forCall (fun _ _ => 0) ⟨#[], args, []⟩).memory :=
  laidMetH_of_parts3 (fuel := 8) (laidMet_of_run' 8 (by kernel_rfl) (by kernel_rfl)) (by kernel_rfl) (by kernel_rfl)
set_option maxRecDepth 100000 in
theorem tab_of_var {W : World} {cs0 : Array Value} {f0 : Nat} {p0 : List MemPlace} (hg0 : Tryd.prog.globalNamed "bonsai/tree.counts" = some 0) (hv0 : W.var? Tryd.prog "bonsai/tree.counts" = some cs0) (hd0 : DataW.trod (fun _ => ()) Tryd.prog W 0 (fun _ => true) false f0 122 cs0.toList = some (Rows.laid_bonsai_tree_counts, p0)) : Tab W := by
  have hcell := World.var?_cell hg0 hv0
  obtain ⟨xs, m1, _, hx1, hlen, hn, hel⟩ := DataW.trod_array Tryd.underlying122 hd0
  have hlen := hlen.trans cel20
  obtain ⟨l⟩ := cs0
  simp only at hlen hel
  match l, hlen with
  | [c0, c1, c2, c3, c4, c5, c6, c7, c8, c9, c10, c11, c12, c13, c14, c15, c16, c17, c18, c19], _ =>
    match xs, hn with
    | [x0, x1, x2, x3, x4, x5, x6, x7, x8, x9], _ =>
      simp only [Prod.mk.injEq] at hx1
      have hx := hx1.1
      simp only [Rows.laid_bonsai_tree_counts, List.map_cons, List.map_nil, DataW.agg.injEq, List.cons.injEq, and_true] at hx
      obtain ⟨e0, e1, e2, e3, e4, e5, e6, e7, e8, e9⟩ := hx
      have f0 := hel 0 (by decide)
      have f1 := hel 1 (by decide)
      have f2 := hel 2 (by decide)
      have f3 := hel 3 (by decide)
      have f4 := hel 4 (by decide)
      have f5 := hel 5 (by decide)
      have f6 := hel 6 (by decide)
      have f7 := hel 7 (by decide)
      have f8 := hel 8 (by decide)
      have f9 := hel 9 (by decide)
      simp only [cel2, Nat.reduceMul, List.drop_succ_cons, List.drop_zero, List.take_succ_cons, List.take_zero, List.getElem?_cons_zero, List.getElem?_cons_succ] at f0 f1 f2 f3 f4 f5 f6 f7 f8 f9
      obtain ⟨rfl, rfl⟩ := row2 f0 e0.symm
      obtain ⟨rfl, rfl⟩ := row2 f1 e1.symm
      obtain ⟨rfl, rfl⟩ := row2 f2 e2.symm
      obtain ⟨rfl, rfl⟩ := row2 f3 e3.symm
      obtain ⟨rfl, rfl⟩ := row2 f4 e4.symm
      obtain ⟨rfl, rfl⟩ := row2 f5 e5.symm
      obtain ⟨rfl, rfl⟩ := row2 f6 e6.symm
      obtain ⟨rfl, rfl⟩ := row2 f7 e7.symm
      obtain ⟨rfl, rfl⟩ := row2 f8 e8.symm
      obtain ⟨rfl, rfl⟩ := row2 f9 e9.symm
      intro i v hv
      rw [hcell i]
      simpa [tabCells] using hv

set_option maxRecDepth 100000 in
theorem tabZ_of_var {W : World} {cs0 : Array Value} {f0 : Nat} {p0 : List MemPlace} (hg0 : Tryd.prog.globalNamed "math/bits.deBruijn64tab" = some 2) (hv0 : W.var? Tryd.prog "math/bits.deBruijn64tab" = some cs0) (hd0 : DataW.trod (fun _ => ()) Tryd.prog W 0 (fun _ => true) false f0 149 cs0.toList = some (Rows.laid_math_bits_deBruijn64tab, p0)) : TabZ W := by
  have hcell := World.var?_cell hg0 hv0
  obtain ⟨xs, m1, _, hx1, hlen, hn, hel⟩ := DataW.trod_array Tryd.underlying149 hd0
  have hlen := hlen.trans cel64
  simp only [Prod.mk.injEq] at hx1
  have hx := hx1.1
  have hl : Rows.laid_math_bits_deBruijn64tab (H := Unit) = .agg (Lib.deBruijn64tab.map fun (k : Nat) => (DataW.lit (.int .u8 (k : Int)) : DataW Unit)) := rfl
  rw [hl, DataW.agg.injEq] at hx
  intro i hi
  have h1 := hel i hi
  have h2 : (xs.map (·.1))[i]? = some (.lit (.int .u8 ((Lib.deBruijn64tab.getD i 0 : Nat) : Int))) := by
    have h64 : Lib.deBruijn64tab.length = 64 := rfl
    rw [← hx, List.getElem?_map, List.getD_eq_getElem?_getD, List.getElem?_eq_getElem (by omega)]
    rfl
  rw [celU8, Nat.mul_one] at h1
  have hil : i < cs0.toList.length := by omega
  have h3 : (cs0.toList.drop i).take 1 = [cs0.toList[i]] := by
    rw [List.drop_eq_getElem_cons hil]
    rfl
  rw [h3] at h1
  rw [List.getElem?_map] at h2
  cases hxi : xs[i]? with
  | none => rw [hxi] at h2; cases h2
  | some y =>
    rw [hxi] at h1 h2
    obtain ⟨k0, q0, r0, _⟩ := DataW.trod_int Tryd.underlying5 h1
    obtain ⟨e1, _⟩ := List.cons.inj q0
    subst r0
    simp only [Option.map_some, Option.some.injEq, DataW.lit.injEq, Lit.int.injEq, true_and] at h2
    rw [hcell i, ← Array.getElem?_toList, List.getElem?_eq_getElem hil, e1, h2]
theorem tabs_of_laid {W : World} (h : laidMetH Tryd.prog laid4 W) : Tab W ∧ TabZ W := by
  rw [MakeChecks.laidMetH_plain _ _ _ (by kernel_rfl)] at h
  obtain ⟨ps, hl, _⟩ := h
  obtain ⟨_, _, _, _, _, _, _, _, _, _, ⟨g1, t1, cs1, f1, p1, q1, hg1, ht1, hv1, hd1, ⟨_, _, _, _, _, _, _, _, _, _, ⟨g3, t3, cs3, f3, p3, q3, hg3, ht3, hv3, hd3, _, _⟩, _⟩, _⟩, _⟩ := hl
  obtain rfl := Option.some.inj (gCounts.symm.trans hg3)
  obtain rfl := Option.some.inj (tCounts.symm.trans ht3)
  obtain rfl := Option.some.inj (gTz.symm.trans hg1)
  obtain rfl := Option.some.inj (tTz.symm.trans ht1)
  exact ⟨tab_of_var hg3 hv3 hd3, tabZ_of_var hg1 hv1 hd1⟩
end Go.Proofs.YtalnmednhhimhaaDoor
