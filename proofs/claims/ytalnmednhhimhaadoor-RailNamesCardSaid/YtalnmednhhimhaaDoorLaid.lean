/-
  What the listed variable holds, and the frame of a law's proof: what comes in is opened, the law's walk answers true, and all reads as it did.
-/
import Derived.Test.YtalnmednhhimhaaDoorOpen
import Derived.Test.YtalnmednhhimhaaDoorBts
import Derived.Test.YtalnmednhhimhaaDoorCards
import Derived.Test.YtalnmednhhimhaaDoorTie
import Derived.ProofKit
import Derived.LaidMore
import Derived.OpenShut
import Derived.Stop.Joined
import Derived.SevenTiedAt
set_option linter.all false
namespace Go.Proofs.YtalnmednhhimhaaDoor
open Go Go.Sl Go.RowKit Go.Bonsai
open Go.ChangeShapes Go.WideShapes Go.ChangeAt
set_option linter.unusedVariables false
set_option linter.unusedSimpArgs false

theorem own_ : ownKnob Tryd.prog.godebug = none := by kernel_rfl
theorem laidOut_ : laidOutB Tryd.prog = true := by kernel_rfl
theorem gCounts : Tryd.prog.globalNamed "bonsai/tree.counts" = some 0 := by kernel_rfl
theorem tCounts : (Tryd.prog.globals[0]?).map (·.type) = some 122 := by kernel_rfl
theorem cel20 : Tryd.prog.cellsOf 122 = 20 := by kernel_rfl
theorem cel2 : Tryd.prog.cellsOf 121 = 2 := by kernel_rfl

theorem row2 {H : Type} {enc : TypeId × Value → H} {W : World} {sp : Nat → Bool} {held : Bool} {m : Nat} {c d : Value} {x : DataW H × List MemPlace} {a b : Int} (h : DataW.trod enc Tryd.prog W 0 sp held m 121 [c, d] = some x) (hx : x.1 = .agg [.lit (.int .i64 a), .lit (.int .i64 b)]) :
    c = .int .i64 a ∧ d = .int .i64 b := by
  obtain ⟨ys, m1, _, rfl, _, hyl, hy⟩ := DataW.trod_array Tryd.underlying121 h
  match ys, hyl with
  | [y0, y1], _ =>
    have g0 := hy 0 (by decide)
    have g1 := hy 1 (by decide)
    simp only [cel3, Nat.zero_mul, Nat.one_mul, Nat.mul_one, List.drop_succ_cons, List.drop_zero, List.take_succ_cons, List.take_zero, List.getElem?_cons_zero, List.getElem?_cons_succ] at g0 g1
    obtain ⟨k0, q0, r0, _⟩ := DataW.trod_int Tryd.underlying3 g0
    obtain ⟨k1, q1, r1, _⟩ := DataW.trod_int Tryd.underlying3 g1
    obtain ⟨rfl, _⟩ := List.cons.inj q0
    obtain ⟨rfl, _⟩ := List.cons.inj q1
    subst r0; subst r1
    simp at hx
    rw [hx.1, hx.2]
    exact ⟨rfl, rfl⟩

def laid1 : List (String × DataW Unit) := [("bonsai/tree.counts", Rows.laid_bonsai_tree_counts)]
set_option maxRecDepth 100000 in
theorem tab_of_laid {W : World} (h : laidMetH Tryd.prog laid1 W) : Tab W := by
  rw [MakeChecks.laidMetH_plain _ _ _ (by kernel_rfl)] at h
  obtain ⟨ps, ⟨g0, t0, cs0, f0, p0, q0, hg0, ht0, hv0, hd0, _⟩, _⟩ := h
  obtain rfl := Option.some.inj (gCounts.symm.trans hg0)
  obtain rfl := Option.some.inj (tCounts.symm.trans ht0)
  have hcell := World.var?_cell hg0 hv0
  obtain ⟨xs, m1, _, hx1, hlen, hn, hel⟩ := DataW.trod_array Tryd.underlying122 hd0
  have hlen := hlen.trans cel20
  obtain ⟨l⟩ := cs0
  simp only at hlen hel
  match l, hlen with
  | [c0, c1, c2, c3, c4, c5, c6, c7, c8, c9, c10, c11, c12, c13, c14, c15, c16, c17, c18, c19], _ =>
    match xs, hn with
    | [x0, x1, x2, x3, x4, x5, x6, x7, x8, x9], _ =>
      simp only [Prod.mk.injEq] at hx1
      have hx := hx1.1
      simp only [Rows.laid_bonsai_tree_counts, List.map_cons, List.map_nil, DataW.agg.injEq, List.cons.injEq, and_true] at hx
      obtain ⟨e0, e1, e2, e3, e4, e5, e6, e7, e8, e9⟩ := hx
      have f0 := hel 0 (by decide)
      have f1 := hel 1 (by decide)
      have f2 := hel 2 (by decide)
      have f3 := hel 3 (by decide)
      have f4 := hel 4 (by decide)
      have f5 := hel 5 (by decide)
      have f6 := hel 6 (by decide)
      have f7 := hel 7 (by decide)
      have f8 := hel 8 (by decide)
      have f9 := hel 9 (by decide)
      simp only [cel2, Nat.reduceMul, List.drop_succ_cons, List.drop_zero, List.take_succ_cons, List.take_zero, List.getElem?_cons_zero, List.getElem?_cons_succ] at f0 f1 f2 f3 f4 f5 f6 f7 f8 f9
      obtain ⟨rfl, rfl⟩ := row2 f0 e0.symm
      obtain ⟨rfl, rfl⟩ := row2 f1 e1.symm
      obtain ⟨rfl, rfl⟩ := row2 f2 e2.symm
      obtain ⟨rfl, rfl⟩ := row2 f3 e3.symm
      obtain ⟨rfl, rfl⟩ := row2 f4 e4.symm
      obtain ⟨rfl, rfl⟩ := row2 f5 e5.symm
      obtain ⟨rfl, rfl⟩ := row2 f6 e6.symm
      obtain ⟨rfl, rfl⟩ := row2 f7 e7.symm
      obtain ⟨rfl, rfl⟩ := row2 f8 e8.symm
      obtain ⟨rfl, rfl⟩ := row2 f9 e9.symm
      intro i v hv
      rw [hcell i]
      simpa [tabCells] using hv

/-- The door's own heap meets the condition. -/
theorem door_met (os : Os) (args : Array Value) : laidMetH Tryd.prog laid1 ((World.doorLaid Tryd.prog 400 os).forCall (fun _ _ => 0) ⟨#[], args, []⟩).memory :=
  laidMetH_of_parts3 (fuel := 8) (laidMet_of_run' 8 (by kernel_rfl) (by kernel_rfl)) (by kernel_rfl) (by kernel_rfl)
theorem agg_of_cells {v a b : Value} {l : List Value} (h : v.cells.toList = a :: b :: l) : v = .agg (a :: b :: l).toArray := by
  cases v <;> simp [Value.cells] at h
  rename_i cs
  rw [← h]
theorem sized_of {H : Type} {P : Program} {ts : List TypeId} {ds : List (DataW H)} (h : (DataW.weightsEach P ts ds).all (· ≤ reachBytes) = true) : ∀ (i : Nat) t d, ts[i]? = some t → ds[i]? = some d → Sized P t d := by
  refine sized_each fun k hk => ?_
  have := List.all_eq_true.1 h k hk
  simpa using this
end Go.Proofs.YtalnmednhhimhaaDoor
