/-
  Opening what comes in: a grammar.
-/
import Derived.Test.YtalnmednhhimhaaGreatDoorOpen
import Derived.Test.YtalnmednhhimhaaGreatDoorSheet
set_option linter.all false
namespace Go.Bonsai
open Go Go.Sl Go.RowKit
instance : Inhabited Row := ⟨(⟨#[]⟩, .zero)⟩
/-- a grammar, read -/
def RGram (S : Nat → Prop) (w : World) (v : Value) (l : List Row) : Prop := ∃ A c, v = .agg #[.slice A l.length c] ∧ RSl 3 RRow S w (.slice A l.length c) l
end Go.Bonsai
namespace Go.Proofs.YtalnmednhhimhaaGreatDoor
open Go Go.Sl Go.RowKit Go.Bonsai
set_option linter.unusedVariables false
variable {H : Type} {enc : TypeId × Value → H} {w : World}
theorem celD : Tryz.prog.cellsOf 70 = 3 := by kernel_rfl
theorem celDs : Tryz.prog.cellsOf 54 = 1 := by kernel_rfl
theorem celG : Tryz.prog.cellsOf 56 = 1 := by kernel_rfl
theorem bytD : Tryz.prog.bytesOf 70 = 48 := by kernel_rfl
set_option maxRecDepth 100000 in
theorem open_def {fuel : Nat} {cs : List Value} {x : DataW H × List MemPlace} (h : DataW.trod enc Tryz.prog w 0 (fun _ => true) true fuel 70 cs = some x) (hs : Sized Tryz.prog 70 x.1) : ∃ r : Row, RRow (Old w) w cs r ∧ r.2.wf ∧ r.1.size ≤ 140737488355328 := by
  obtain ⟨xs, m, _, rfl, hl, hlen, hf⟩ := DataW.trod_struct Tryz.underlying70 h
  have hl := hl.trans celD
  match cs, hl with
  | [c0, c1, c2], _ =>
    match xs, hlen with
    | [y0, y1], _ =>
      unfold Sized at hs
      simp only [DataW.weights, Tryz.underlying70] at hs
      have hse := sized_each hs
      have f0 := hf 0 _ rfl
      have f1 := hf 1 _ rfl
      simp only [celS, celT, List.drop_succ_cons, List.drop_zero, List.take_succ_cons, List.take_zero, List.getElem?_cons_zero, List.getElem?_cons_succ] at f0 f1
      obtain ⟨s, e0, rfl', _⟩ := DataW.trod_string Tryz.underlying9 f0
      obtain ⟨t, ht, hw⟩ := open_tree f1 (hse 1 _ _ rfl rfl)
      have hst := hse 0 _ _ rfl rfl
      have htx : s.size ≤ reachBytes := by
        have e : y0.1 = .lit (.string s.data.toList) := by rw [rfl']
        simp only [List.map_cons, List.getElem?_cons_zero, List.getElem?_cons_succ] at hst
        rw [e] at hst
        have := hst s.data.toList.length (by simp [DataW.weights])
        simpa using this
      obtain ⟨rfl, _⟩ := List.cons.inj e0
      obtain ⟨A, c, e1, hr⟩ := ht
      have e2 : c1 = .slice A t.nodes.length c ∧ c2 = .int .i64 t.root := by
        have e1 : [c1, c2] = [.slice A t.nodes.length c, .int .i64 t.root] := e1
        injection e1 with e2 e3
        injection e3 with e4 _
        exact ⟨e2, e4⟩
      obtain ⟨rfl, rfl⟩ := e2
      refine ⟨(s, t), ⟨A, c, rfl, hr⟩, hw, ?_⟩
      show s.size ≤ _
      rw [reach_eq] at htx
      omega
theorem open_defs {fuel : Nat} {cs : List Value} {x : DataW H × List MemPlace} (h : DataW.trod enc Tryz.prog w 0 (fun _ => true) true fuel 54 cs = some x) (hs : Sized Tryz.prog 54 x.1) : ∃ (l : List Row) (A : Option Addr) (c : Nat), cs = [.slice A l.length c] ∧ RSl 3 RRow (Old w) w (.slice A l.length c) l ∧ l.length * 48 ≤ reachBytes ∧ ∀ r ∈ l, r.2.wf ∧ r.1.size ≤ 140737488355328 := by
  obtain ⟨l, A, c, rows, h1, h2, h3, h4, h5, h6⟩ := open_slice (R := RRow (Old w) w) (F := fun r : Row => r.2.wf ∧ r.1.size ≤ 140737488355328) Tryz.underlying54 celD (by decide) (fun n cs y hy hys => open_def hy hys) h hs
  rw [bytD] at h5
  exact ⟨l, A, c, h1, ⟨A, c, rows, rfl, h2, h3, h4⟩, h5, h6⟩
set_option maxRecDepth 100000 in
theorem open_grammar {fuel : Nat} {cs : List Value} {x : DataW H × List MemPlace} (h : DataW.trod enc Tryz.prog w 0 (fun _ => true) true fuel 56 cs = some x) (hs : Sized Tryz.prog 56 x.1) : ∃ (l : List Row), RGram (Old w) w (.agg cs.toArray) l ∧ l.length ≤ 4398046511104 ∧ ∀ r ∈ l, r.2.wf ∧ r.1.size ≤ 140737488355328 := by
  obtain ⟨xs, m, _, rfl, hl, hlen, hf⟩ := DataW.trod_struct Tryz.underlying56 h
  have hl := hl.trans celG
  match cs, hl with
  | [c0], _ =>
    match xs, hlen with
    | [y0], _ =>
      unfold Sized at hs
      simp only [DataW.weights, Tryz.underlying56] at hs
      have hse := sized_each hs
      have f0 := hf 0 _ rfl
      simp only [celDs, List.drop_succ_cons, List.drop_zero, List.take_succ_cons, List.take_zero, List.getElem?_cons_zero, List.getElem?_cons_succ] at f0
      obtain ⟨l, A, c, e0, hr, hnl, hw⟩ := open_defs f0 (hse 0 _ _ rfl rfl)
      obtain ⟨rfl, _⟩ := List.cons.inj e0
      rw [reach_eq] at hnl
      exact ⟨l, ⟨A, c, rfl, hr⟩, by omega, hw⟩
end Go.Proofs.YtalnmednhhimhaaGreatDoor
