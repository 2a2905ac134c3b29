/-
  The law TreeTells, walked: it answers true for every two trees and every number.
-/
import Derived.Test.YtlhkkngpppcfoaaDoorWorks
import Derived.Test.YtlhkkngpppcfoaaDoorRefTells
import Derived.Test.YtlhkkngpppcfoaaDoorRefWalk
import Derived.Test.YtlhkkngpppcfoaaDoorRefKids
import Derived.Test.YtlhkkngpppcfoaaDoorMakesHelp
set_option linter.all false
namespace Go.Bonsai
open Go Go.Sl Go.RowKit
theorem RTrees.old2 {w0 w : World} {L : List HP} {A1 A2 : Option Addr} {c1 c2 e : Nat} {B : Nat} {t1 t2 : Tre} (hw : St w0 L w) (ha : At L (own e 2 (some ⟨B, 0, none⟩) 2 2 [[.slice A1 t1.nodes.length c1, .int .i64 t1.root], [.slice A2 t2.nodes.length c2, .int .i64 t2.root]]))
    (h1 : RTreeC (Old w0) w0 [.slice A1 t1.nodes.length c1, .int .i64 t1.root] t1) (h2 : RTreeC (Old w0) w0 [.slice A2 t2.nodes.length c2, .int .i64 t2.root] t2) :
    RTrees (Old w) w (.slice (some ⟨B, 0, none⟩) 2 2) [t1, t2] :=
  ⟨some ⟨B, 0, none⟩, 2, _, rfl, St.own_arr hw ha, All2.snoc (l := [_]) (m := [_]) (All2.snoc (l := []) (m := []) .nil (St.old_treeC hw h1)) (St.old_treeC hw h2), Nat.le_refl _⟩
theorem subP_wf {t : Tre} (h : t.wf) (node : Int) : (subP t node).1.wf := by
  by_cases hy : rightP t = true ∧ 0 ≤ node ∧ node < t.nodes.length
  · rw [subP_yes hy.1 hy.2.1 hy.2.2]
    exact (takenP_wf h (rightP_spec hy.1) hy.2.1 hy.2.2).1
  · rw [subP_no hy]
    exact Tre.zero_wf
theorem St.getTs {w0 w : World} {L : List HP} {v : Value} {ts : List Tre} (h : St w0 L w) (ha : At L (hTrees v ts)) : RTrees (Old w) w v ts := hTrees_on (h.at_all ha)
/-- trees of one's own, opened: the row of their cells, and each apart -/
theorem St.openTs {w0 w : World} {L : List HP} {A : Option Addr} {c : Nat} {ts : List Tre} (h : St w0 (hTrees (.slice A ts.length c) ts :: L) w) :
    ∃ x : Nat × List (List Value), St w0 (own x.1 2 A ts.length c x.2 :: hTR x.2 ts :: L) w := by
  obtain ⟨hb, S1, h1, ⟨e, A', c', rows, S2, eq, hs, ho, hr⟩, h3⟩ := h
  injection eq with e1 e2 e3
  subst e1; subst e3
  exact ⟨(e, rows), hb, S2, fun b hb => h1 b (hs b hb), ho, fun b => S1 b ∧ ¬ S2 b, fun b hb => ⟨h1 b hb.1, hb.2⟩, hr, h3.keep (fun b hb => ⟨⟨hb.1, fun h => hb.2 (hs b h)⟩, fun h => hb.2 h.1⟩) (fun _ _ => rfl)⟩
/-- the first of them -/
theorem St.openTR {w0 w : World} {L : List HP} {rows : List (List Value)} {t : Tre} {ts : List Tre} (h : St w0 (hTR rows (t :: ts) :: L) w) :
    ∃ x : { x : (Option Addr × Nat) × List (List Value) // rows = [.slice x.1.1 t.nodes.length x.1.2, .int .i64 t.root] :: x.2 }, St w0 (hNodes (.slice x.1.1.1 t.nodes.length x.1.1.2) t.nodes :: hTR x.1.2 ts :: L) w := by
  obtain ⟨hb, S1, h1, ⟨hl, hs⟩, h3⟩ := h
  match rows, hl, hs with
  | r :: rs, hl, ⟨S2, g1, ⟨A, c, hr, hn⟩, g3⟩ =>
    exact ⟨⟨((A, c), rs), by rw [hr]⟩, hb, S2, fun b hb => h1 b (g1 b hb), hn, fun b => S1 b ∧ ¬ S2 b, fun b hb => ⟨h1 b hb.1, hb.2⟩, ⟨by simpa using hl, g3⟩, h3.keep (fun b hb => ⟨⟨hb.1, fun h => hb.2 (g1 b h)⟩, fun h => hb.2 h.1⟩) (fun _ _ => rfl)⟩
end Go.Bonsai
namespace Go.Proofs.YtlhkkngpppcfoaaDoor
open Go Go.Sl Go.RowKit Go.Bonsai
set_option linter.unusedVariables false
set_option linter.unusedSimpArgs false

set_option maxHeartbeats 4000000 in
theorem treeTells_any (v1 v2 : Value) (a b : Tre) (node : Int) (w : World) (hr1 : RTree (Old w) w v1 a) (hr2 : RTree (Old w) w v2 b) (hw1 : a.wf) (hw2 : b.wf) (hwn : (Lit.int .i64 node).wf = true) (hT : Tab w) :
    Calls Tryd.prog 8 #[v1, v2, .int .i64 node] w (RetV w (.bool true)) := by
  have h1 := hr1
  have h2 := hr2
  obtain ⟨nv, rfl, A1, c1, rows1, rfl, hA1, hrows1, hc1⟩ := hr1
  obtain ⟨nv, rfl, A2, c2, rows2, rfl, hA2, hrows2, hc2⟩ := hr2
  have hC1 : RTreeC (Old w) w [.slice A1 a.nodes.length c1, .int .i64 a.root] a := ⟨A1, c1, rfl, A1, c1, rows1, rfl, hA1, hrows1, hc1⟩
  have hC2 : RTreeC (Old w) w [.slice A2 b.nodes.length c2, .int .i64 b.root] b := ⟨A2, c2, rfl, A2, c2, rows2, rfl, hA2, hrows2, hc2⟩
  clear hA1 hA2 hrows1 hrows2
  refine TC.calls (l := [.agg #[.slice A1 a.nodes.length c1, .int .i64 a.root], .agg #[.slice A2 b.nodes.length c2, .int .i64 b.root], .int .i64 node]) Tryd.func8 rfl Tryd.ntmps8 rfl (St.start w) ?_
  repeat' (first | (refine W1 ?_) | (refine W2 (fun hc => ?_) (fun hc => ?_)) | (intro _))
  rename_i b3 b4 B
  refine T.callR rfl rfl (fun w' hw' => long_any _ [a, b] w' (RTrees.old2 hw' AtA hC1 hC2) (by simp) (by intro x hx; simp at hx; rcases hx with rfl | rfl <;> assumption)) (fun bb hb => ?_)
  cases bb with
  | true =>
    repeat' (first | (refine W1 ?_) | (refine W2 (fun hc => ?_) (fun hc => ?_)) | (intro _) | (apply T.callV (f := 16); (exact rfl); (exact rfl); (intro w' hw'; apply works_any; (exact Tab.st hT hw'))) | (apply TL.kcallV (f := 16); (exact rfl); (intro w' hw'; apply works_any; (exact Tab.st hT hw')); (exact rfl); (exact rfl); (exact DropA)))
    exact TX.ret_tmp rfl rfl (fun w' hw => RetV.eq hw rfl)
  | false =>
  have hS : [a, b].length + tot [a, b] + totK [a, b] < 4000 := hb rfl
  have hka : (allKids a.nodes).length ≤ bigL := by have := totK_le (l := [a, b]) (t := a) (by simp); unfold bigL; omega
  have hkb : (allKids b.nodes).length ≤ bigL := by have := totK_le (l := [a, b]) (t := b) (by simp); unfold bigL; omega
  have hla : a.nodes.length < 4000 := by have := tot_le (l := [a, b]) (t := a) (by simp); omega
  clear hb hS
  repeat' (first | (refine W1 ?_) | (refine W2 (fun hc => ?_) (fun hc => ?_)) | (intro _))
  refine T.callR rfl rfl (fun w' hw' => own_any _ a w' (St.old_tree hw' h1) hw1) (fun p _ => ?_)
  repeat' (first | (refine TC.hold 4 ?_) | (refine W1 ?_) | (refine W2 (fun hc => ?_) (fun hc => ?_)) | (intro _))
  rename_i b7
  refine ⟨TC.cutA (ι := Unit) (fun _ r => r) (fun _ => St w [blk b7 [.slice p.1 a.nodes.length p.2, .int .i64 a.root] 24, hNodes (.slice p.1 a.nodes.length p.2) a.nodes, blk b4 [.slice A2 b.nodes.length c2, .int .i64 b.root] 24, blk b3 [.slice A1 a.nodes.length c1, .int .i64 a.root] 24]) KpA ?_ (fun _ => ?_)⟩
  · have e1 : (!(rightP a == rightP a)) = false := by simp
    have e2 : (!(mayP a == mayP a)) = false := by simp
    have e3 : (!decide (sizeP a = sizeP a)) = false := by simp
    have e4 : (!decide (depthP a = depthP a)) = false := by simp
    have e5 : (!(sameP a b == sameP a b)) = false := by simp
    have e6 : (!decide ((⟨[rootP a], 0⟩ : Tre) = ⟨[rootP a], 0⟩)) = false := by simp
    have hrk : (rootP a).kids = [] := by unfold rootP; split <;> rfl
    have hwr : (⟨[rootP a], 0⟩ : Tre).wf := ⟨by unfold bigN; simp, by simpa using rootP_wf hw1, by unfold I64; simp⟩
    apply TC.seq
    refine TC.lexT [] (.seg [0, 2, 1, 3, 4, 5, 6, 8, 7, 9, 10, 11, 12, 13, 15, 14, 16, 17, 18, 19, 20, 22, 21, 23, 24, 25, 26, 27, 28, 30, 31, 29, 32, 33, 34, 35, 36, 40, 37] (.both (.seg [38, 39, 41, 42, 43, 44, 45, 46] .fin) (.seg [41] (.both (.seg [38, 39, 42, 43, 44, 45, 46] .fin) (.seg [42, 43, 38, 39, 44, 45, 46] .fin))))) mixed (by kernel_rfl) (TT.seg rfl ?_)
    repeat' (first | (apply TX.tree) | (apply TT.both) | ((apply TT.seg; exact rfl)) | (apply TT.fin) | (refine W1 ?_) | (refine W2 (fun hc => ?_) (fun hc => ?_)) | (intro _) | (apply T.callV (f := 19); (exact rfl); (exact rfl); (intro w' hw'; apply right_any; (first | exact St.old_tree hw' (by assumption) | exact St.get_treeN hw' AtA | exact St.get_tt hw' AtA (by assumption) (by assumption)); (assumption); (exact Tab.st hT hw'))) | (apply TL.kcallV (f := 19); (exact rfl); (intro w' hw'; apply right_any; (first | exact St.old_tree hw' (by assumption) | exact St.get_treeN hw' AtA | exact St.get_tt hw' AtA (by assumption) (by assumption)); (assumption); (exact Tab.st hT hw')); (exact rfl); (exact rfl); (exact DropA)) | (apply T.callV (f := 43); (exact rfl); (exact rfl); (intro w' hw'; apply rright_any; (first | exact St.old_tree hw' (by assumption) | exact St.get_treeN hw' AtA | exact St.get_tt hw' AtA (by assumption) (by assumption)); (assumption); (assumption))) | (apply TL.kcallV (f := 43); (exact rfl); (intro w' hw'; apply rright_any; (first | exact St.old_tree hw' (by assumption) | exact St.get_treeN hw' AtA | exact St.get_tt hw' AtA (by assumption) (by assumption)); (assumption); (assumption)); (exact rfl); (exact rfl); (exact DropA)) | (apply T.callV (f := 39); (exact rfl); (exact rfl); (intro w' hw'; apply may_any; (first | exact St.old_tree hw' (by assumption) | exact St.get_treeN hw' AtA | exact St.get_tt hw' AtA (by assumption) (by assumption)); (assumption); (exact Tab.st hT hw'))) | (apply TL.kcallV (f := 39); (exact rfl); (intro w' hw'; apply may_any; (first | exact St.old_tree hw' (by assumption) | exact St.get_treeN hw' AtA | exact St.get_tt hw' AtA (by assumption) (by assumption)); (assumption); (exact Tab.st hT hw')); (exact rfl); (exact rfl); (exact DropA)) | (apply T.callV (f := 44); (exact rfl); (exact rfl); (intro w' hw'; apply rmay_any; (first | exact St.old_tree hw' (by assumption) | exact St.get_treeN hw' AtA | exact St.get_tt hw' AtA (by assumption) (by assumption)); (assumption); (assumption))) | (apply TL.kcallV (f := 44); (exact rfl); (intro w' hw'; apply rmay_any; (first | exact St.old_tree hw' (by assumption) | exact St.get_treeN hw' AtA | exact St.get_tt hw' AtA (by assumption) (by assumption)); (assumption); (assumption)); (exact rfl); (exact rfl); (exact DropA)) | (apply T.callV (f := 35); (exact rfl); (exact rfl); (intro w' hw'; apply size_any; (first | exact St.old_tree hw' (by assumption) | exact St.get_treeN hw' AtA | exact St.get_tt hw' AtA (by assumption) (by assumption)); (assumption); (exact Tab.st hT hw'))) | (apply TL.kcallV (f := 35); (exact rfl); (intro w' hw'; apply size_any; (first | exact St.old_tree hw' (by assumption) | exact St.get_treeN hw' AtA | exact St.get_tt hw' AtA (by assumption) (by assumption)); (assumption); (exact Tab.st hT hw')); (exact rfl); (exact rfl); (exact DropA)) | (apply T.callV (f := 45); (exact rfl); (exact rfl); (intro w' hw'; apply rsize_any; (first | exact St.old_tree hw' (by assumption) | exact St.get_treeN hw' AtA | exact St.get_tt hw' AtA (by assumption) (by assumption)); (assumption); (assumption))) | (apply TL.kcallV (f := 45); (exact rfl); (intro w' hw'; apply rsize_any; (first | exact St.old_tree hw' (by assumption) | exact St.get_treeN hw' AtA | exact St.get_tt hw' AtA (by assumption) (by assumption)); (assumption); (assumption)); (exact rfl); (exact rfl); (exact DropA)) | (apply T.callV (f := 36); (exact rfl); (exact rfl); (intro w' hw'; apply depth_any; (first | exact St.old_tree hw' (by assumption) | exact St.get_treeN hw' AtA | exact St.get_tt hw' AtA (by assumption) (by assumption)); (assumption); (exact Tab.st hT hw'))) | (apply TL.kcallV (f := 36); (exact rfl); (intro w' hw'; apply depth_any; (first | exact St.old_tree hw' (by assumption) | exact St.get_treeN hw' AtA | exact St.get_tt hw' AtA (by assumption) (by assumption)); (assumption); (exact Tab.st hT hw')); (exact rfl); (exact rfl); (exact DropA)) | (apply T.callV (f := 46); (exact rfl); (exact rfl); (intro w' hw'; apply rdepth_any; (first | exact St.old_tree hw' (by assumption) | exact St.get_treeN hw' AtA | exact St.get_tt hw' AtA (by assumption) (by assumption)); (assumption); (assumption))) | (apply TL.kcallV (f := 46); (exact rfl); (intro w' hw'; apply rdepth_any; (first | exact St.old_tree hw' (by assumption) | exact St.get_treeN hw' AtA | exact St.get_tt hw' AtA (by assumption) (by assumption)); (assumption); (assumption)); (exact rfl); (exact rfl); (exact DropA)) | (apply T.callV (f := 34); (exact rfl); (exact rfl); (intro w' hw'; apply sameT_any; (first | exact St.old_tree hw' (by assumption) | exact St.get_treeN hw' AtA | exact St.get_tt hw' AtA (by assumption) (by assumption)); (first | exact St.old_tree hw' (by assumption) | exact St.get_treeN hw' AtA | exact St.get_tt hw' AtA (by assumption) (by assumption)); (assumption); (assumption); (exact Tab.st hT hw'))) | (apply TL.kcallV (f := 34); (exact rfl); (intro w' hw'; apply sameT_any; (first | exact St.old_tree hw' (by assumption) | exact St.get_treeN hw' AtA | exact St.get_tt hw' AtA (by assumption) (by assumption)); (first | exact St.old_tree hw' (by assumption) | exact St.get_treeN hw' AtA | exact St.get_tt hw' AtA (by assumption) (by assumption)); (assumption); (assumption); (exact Tab.st hT hw')); (exact rfl); (exact rfl); (exact DropA)) | (apply T.callV (f := 47); (exact rfl); (exact rfl); (intro w' hw'; apply rsame_any; (first | exact St.old_tree hw' (by assumption) | exact St.get_treeN hw' AtA | exact St.get_tt hw' AtA (by assumption) (by assumption)); (first | exact St.old_tree hw' (by assumption) | exact St.get_treeN hw' AtA | exact St.get_tt hw' AtA (by assumption) (by assumption)); (assumption); (assumption); (assumption); (assumption))) | (apply TL.kcallV (f := 47); (exact rfl); (intro w' hw'; apply rsame_any; (first | exact St.old_tree hw' (by assumption) | exact St.get_treeN hw' AtA | exact St.get_tt hw' AtA (by assumption) (by assumption)); (first | exact St.old_tree hw' (by assumption) | exact St.get_treeN hw' AtA | exact St.get_tt hw' AtA (by assumption) (by assumption)); (assumption); (assumption); (assumption); (assumption)); (exact rfl); (exact rfl); (exact DropA)) | (apply T.callV (f := 38); (exact rfl); (exact rfl); (intro w' hw'; apply root_any; (first | exact St.old_tree hw' (by assumption) | exact St.get_treeN hw' AtA | exact St.get_tt hw' AtA (by assumption) (by assumption)); (assumption); (exact Tab.st hT hw'))) | (apply TL.kcallV (f := 38); (exact rfl); (intro w' hw'; apply root_any; (first | exact St.old_tree hw' (by assumption) | exact St.get_treeN hw' AtA | exact St.get_tt hw' AtA (by assumption) (by assumption)); (assumption); (exact Tab.st hT hw')); (exact rfl); (exact rfl); (exact DropA)) | (apply T.callV (f := 48); (exact rfl); (exact rfl); (intro w' hw'; apply rroot_any; (first | exact St.old_tree hw' (by assumption) | exact St.get_treeN hw' AtA | exact St.get_tt hw' AtA (by assumption) (by assumption)); (assumption); (assumption))) | (apply TL.kcallV (f := 48); (exact rfl); (intro w' hw'; apply rroot_any; (first | exact St.old_tree hw' (by assumption) | exact St.get_treeN hw' AtA | exact St.get_tt hw' AtA (by assumption) (by assumption)); (assumption); (assumption)); (exact rfl); (exact rfl); (exact DropA)))
    all_goals refine TL.kcallV rfl (fun w' hw' => exact_any _ _ ⟨[rootP a], 0⟩ ⟨[rootP a], 0⟩ w' ⟨_, rfl, RNodes.one hw' (cs := (rootP a).cells (.slice none 0 0)) AtA (RNode.leaf hrk)⟩ ⟨_, rfl, RNodes.one hw' (cs := (rootP a).cells (.slice none 0 0)) AtA (RNode.leaf hrk)⟩ hwr hwr) rfl rfl DropA ?_
    repeat' (first | (apply TX.tree) | (apply TT.fin) | (refine W1 ?_) | (refine W2 (fun hc => ?_) (fun hc => ?_)) | (intro _))
    all_goals (apply TX.join (); exact SubA; exact fun w' hw => St.inc IncA hw)
  · repeat' (first | (refine TC.holdR 6 ?_) | (refine W1 ?_) | (refine W2 (fun hc => ?_) (fun hc => ?_)) | (intro _))
    refine ⟨TC.cutA (ι := (Option Addr × Nat) × (Option Addr × Nat)) (fun k r => (8, .slice k.1.1 (walkP a).length k.1.2) :: (9, .slice k.2.1 (walkP a).length k.2.2) :: r) (fun k => St w [own 3 1 k.1.1 (walkP a).length k.1.2 (irows (walkP a)), own 3 1 k.2.1 (walkP a).length k.2.2 (irows (walkP a)), blk b7 [.slice p.1 a.nodes.length p.2, .int .i64 a.root] 24, hNodes (.slice p.1 a.nodes.length p.2) a.nodes, blk b4 [.slice A2 b.nodes.length c2, .int .i64 b.root] 24, blk b3 [.slice A1 a.nodes.length c1, .int .i64 a.root] 24]) KpA
      (TC.lexT [] (.seg [0, 2, 1, 3, 4, 5] .fin) mixed (by kernel_rfl) (TT.seg rfl ?_)) (fun k => ?_)⟩
    · repeat' (first | (apply TX.tree) | (apply TT.fin) | (refine W1 ?_) | (refine W2 (fun hc => ?_) (fun hc => ?_)) | (intro _) | (apply T.callR (f := 18); (exact rfl); (exact rfl); (intro w' hw'; apply walk_any; (first | exact St.old_tree hw' (by assumption) | exact St.get_treeN hw' AtA | exact St.get_tt hw' AtA (by assumption) (by assumption)); (assumption); (exact Tab.st hT hw'))) | (apply TL.kcallR (f := 18); (exact rfl); (intro w' hw'; apply walk_any; (first | exact St.old_tree hw' (by assumption) | exact St.get_treeN hw' AtA | exact St.get_tt hw' AtA (by assumption) (by assumption)); (assumption); (exact Tab.st hT hw')); (exact rfl); (exact rfl); (exact DropA)) | (apply T.callR (f := 49); (exact rfl); (exact rfl); (intro w' hw'; apply rwalk_any; (first | exact St.old_tree hw' (by assumption) | exact St.get_treeN hw' AtA | exact St.get_tt hw' AtA (by assumption) (by assumption)); (assumption); (assumption))) | (apply TL.kcallR (f := 49); (exact rfl); (intro w' hw'; apply rwalk_any; (first | exact St.old_tree hw' (by assumption) | exact St.get_treeN hw' AtA | exact St.get_tt hw' AtA (by assumption) (by assumption)); (assumption); (assumption)); (exact rfl); (exact rfl); (exact DropA)))
      apply TX.join (_, _)
      exact SubA
      exact fun w' hw => St.inc IncA hw
    obtain ⟨p1, p2⟩ := k
    dsimp only
    have hlw : (walkP a).length ≤ 4000 := by
      unfold walkP
      split
      · rename_i hri
        rw [(row_ok (rightP_spec hri)).len]; omega
      · simp
    have e0 : (!decide (((walkP a).length : Int) = ((walkP a).length : Int))) = false := by simp
    repeat' (first | (refine W1 ?_) | (refine W2 (fun hc => ?_) (fun hc => ?_)) | (intro _))
    refine TC.loopA (ι := Nat) 0 (fun k r => (10, .int .i64 k) :: r) (fun _ => St w [own 3 1 p1.1 (walkP a).length p1.2 (irows (walkP a)), own 3 1 p2.1 (walkP a).length p2.2 (irows (walkP a)), blk b7 [.slice p.1 a.nodes.length p.2, .int .i64 a.root] 24, hNodes (.slice p.1 a.nodes.length p.2) a.nodes, blk b4 [.slice A2 b.nodes.length c2, .int .i64 b.root] 24, blk b3 [.slice A1 a.nodes.length c1, .int .i64 a.root] 24]) (fun k => k ≤ (walkP a).length) (fun k => (walkP a).length - k) KpA SubA (fun w' hw => hw) (Nat.zero_le _) ?_
    intro i hi
    by_cases hlt : i < (walkP a).length
    · have hck : decide ((i : Int) < ((walkP a).length : Int)) = true := by simp [hlt]
      have hz : (walkP a)[i]? = some (walkP a)[i] := List.getElem?_eq_getElem hlt
      refine TC.fact (φ := p1.1 = some (p1.1.getD default)) (fun w hw => (St.own_arr (A := p1.1) (rows := irows (walkP a)) hw AtA).some_ (by omega)) (fun hs1 => ?_)
      refine TC.fact (φ := p2.1 = some (p2.1.getD default)) (fun w hw => (St.own_arr (A := p2.1) (rows := irows (walkP a)) hw AtA).some_ (by omega)) (fun hs2 => ?_)
      generalize (walkP a)[i] = z at *
      have e1 : (!decide (z = z)) = false := by simp
      repeat' (first | (refine W1 ?_) | (refine W2 (fun hc => ?_) (fun hc => ?_)) | (intro _))
      exact TX.round (i + 1) hlt (by omega) SubA (fun w' hw => hw)
    · have hck : decide ((i : Int) < ((walkP a).length : Int)) = false := by simp; omega
      repeat' (first | (refine W1 ?_) | (refine W2 (fun hc => ?_) (fun hc => ?_)) | (intro _))
      refine TC.loopA (ι := Nat) 0 (fun k r => (11, .int .i64 k) :: r) (fun _ => St w [blk b7 [.slice p.1 a.nodes.length p.2, .int .i64 a.root] 24, hNodes (.slice p.1 a.nodes.length p.2) a.nodes, blk b4 [.slice A2 b.nodes.length c2, .int .i64 b.root] 24, blk b3 [.slice A1 a.nodes.length c1, .int .i64 a.root] 24]) (fun k => k ≤ 2) (fun k => 2 - k) KpA SubA (fun w' hw => St.inc IncA hw) (by omega) ?_
      clear hck e0
      intro k hk
      by_cases hk2 : k < 2
      · have hck2 : decide ((k : Int) < 2) = true := by simp; omega
        have hwc := cleanP_wf hw1
        have hws := subP_wf hw1 node
        have hwk := kidsP_wf hw1
        have hkl := (kidsP_tot a).2
        have e1 : (!decide (cleanP a = cleanP a)) = false := by simp
        have e2 : (!((subP a node).2 == (subP a node).2)) = false := by simp
        have e3 : (!decide ((subP a node).1 = (subP a node).1)) = false := by simp
        have e4 : (!decide (kidsP a = kidsP a)) = false := by simp
        repeat' (first | (refine W1 ?_) | (refine W2 (fun hc => ?_) (fun hc => ?_)) | (intro _) | (apply T.callR (f := 33); (exact rfl); (exact rfl); (intro w' hw'; apply clean_any; (first | exact St.old_tree hw' (by assumption) | exact St.get_treeN hw' AtA | exact St.get_tt hw' AtA (by assumption) (by assumption)); (assumption); (exact Tab.st hT hw'))) | (apply TL.kcallR (f := 33); (exact rfl); (intro w' hw'; apply clean_any; (first | exact St.old_tree hw' (by assumption) | exact St.get_treeN hw' AtA | exact St.get_tt hw' AtA (by assumption) (by assumption)); (assumption); (exact Tab.st hT hw')); (exact rfl); (exact rfl); (exact DropA)) | (apply T.callR (f := 42); (exact rfl); (exact rfl); (intro w' hw'; apply sub_any; (first | exact St.old_tree hw' (by assumption) | exact St.get_treeN hw' AtA | exact St.get_tt hw' AtA (by assumption) (by assumption)); (assumption); (exact Tab.st hT hw'))) | (apply TL.kcallR (f := 42); (exact rfl); (intro w' hw'; apply sub_any; (first | exact St.old_tree hw' (by assumption) | exact St.get_treeN hw' AtA | exact St.get_tt hw' AtA (by assumption) (by assumption)); (assumption); (exact Tab.st hT hw')); (exact rfl); (exact rfl); (exact DropA)) | (apply T.callR (f := 50); (exact rfl); (exact rfl); (intro w' hw'; apply rsub_any; (first | exact St.old_tree hw' (by assumption) | exact St.get_treeN hw' AtA | exact St.get_tt hw' AtA (by assumption) (by assumption)); (assumption); (assumption))) | (apply TL.kcallR (f := 50); (exact rfl); (intro w' hw'; apply rsub_any; (first | exact St.old_tree hw' (by assumption) | exact St.get_treeN hw' AtA | exact St.get_tt hw' AtA (by assumption) (by assumption)); (assumption); (assumption)); (exact rfl); (exact rfl); (exact DropA)))
        rename_i pc _ b12 ps _ b13 pr _ b15
        refine T.callR rfl rfl (fun w' hw' => kids_any _ a w' (St.get_treeN hw' AtA) hw1 (Tab.st hT hw')) (fun pk _ => ?_)
        repeat' (first | (refine W1 ?_) | (refine W2 (fun hc => ?_) (fun hc => ?_)) | (intro _) | (apply T.callR (f := 51); (exact rfl); (exact rfl); (intro w' hw'; apply rclean_any; (first | exact St.old_tree hw' (by assumption) | exact St.get_treeN hw' AtA | exact St.get_tt hw' AtA (by assumption) (by assumption)); (assumption); (assumption))) | (apply TL.kcallR (f := 51); (exact rfl); (intro w' hw'; apply rclean_any; (first | exact St.old_tree hw' (by assumption) | exact St.get_treeN hw' AtA | exact St.get_tt hw' AtA (by assumption) (by assumption)); (assumption); (assumption)); (exact rfl); (exact rfl); (exact DropA)) | (apply T.callV (f := 22); (exact rfl); (exact rfl); (intro w' hw'; apply exact_any; (first | exact St.old_tree hw' (by assumption) | exact St.get_treeN hw' AtA | exact St.get_tt hw' AtA (by assumption) (by assumption)); (first | exact St.old_tree hw' (by assumption) | exact St.get_treeN hw' AtA | exact St.get_tt hw' AtA (by assumption) (by assumption)); (assumption); (assumption))) | (apply TL.kcallV (f := 22); (exact rfl); (intro w' hw'; apply exact_any; (first | exact St.old_tree hw' (by assumption) | exact St.get_treeN hw' AtA | exact St.get_tt hw' AtA (by assumption) (by assumption)); (first | exact St.old_tree hw' (by assumption) | exact St.get_treeN hw' AtA | exact St.get_tt hw' AtA (by assumption) (by assumption)); (assumption); (assumption)); (exact rfl); (exact rfl); (exact DropA)) | (apply T.callR (f := 52); (exact rfl); (exact rfl); (intro w' hw'; apply rkids_any; (first | exact St.old_tree hw' (by assumption) | exact St.get_treeN hw' AtA | exact St.get_tt hw' AtA (by assumption) (by assumption)); (assumption); (assumption))) | (apply TL.kcallR (f := 52); (exact rfl); (intro w' hw'; apply rkids_any; (first | exact St.old_tree hw' (by assumption) | exact St.get_treeN hw' AtA | exact St.get_tt hw' AtA (by assumption) (by assumption)); (assumption); (assumption)); (exact rfl); (exact rfl); (exact DropA)))
        refine TL.kcallV rfl (fun w' hw' => all_any _ _ (kidsP a) (kidsP a) w' (St.getTs hw' AtA) (St.getTs hw' AtA) (by unfold bigN; omega) (by unfold bigN; omega) hwk hwk) rfl rfl DropA ?_
        repeat' (first | (refine W1 ?_) | (refine W2 (fun hc => ?_) (fun hc => ?_)) | (intro _))
        refine T.callM (val := fun _ : Unit => .tuple #[]) rfl rfl (fun w' hw' => spoil_any pc.1 pc.2 (cleanP a).nodes (cleanP a).root w' hwc.len (fun m hm => (hwc.nodes m hm).kids.1) (St.del DelA hw')) (fun _ => ?_)
        repeat' (first | (refine W1 ?_) | (refine W2 (fun hc => ?_) (fun hc => ?_)) | (intro _))
        refine T.callM (val := fun _ : Unit => .tuple #[]) rfl rfl (fun w' hw' => spoil_any ps.1 ps.2 (subP a node).1.nodes (subP a node).1.root w' hws.len (fun m hm => (hws.nodes m hm).kids.1) (St.del DelA hw')) (fun _ => ?_)
        repeat' (first | (refine W1 ?_) | (refine W2 (fun hc => ?_) (fun hc => ?_)) | (intro _))
        refine TC.ex (fun w hw => St.openTs (A := pk.1) (c := pk.2) (ts := kidsP a) (St.del DelA hw)) (fun x => ?_)
        obtain ⟨ty, rows⟩ := x
        dsimp only
        refine TC.loopA (ι := Nat) 0 (fun k r => (18, .int .i64 k) :: r) (fun i => St w (own ty 2 pk.1 (kidsP a).length pk.2 rows :: hTR (rows.drop i) ((kidsP a).drop i) :: [blk b7 [.slice p.1 a.nodes.length p.2, .int .i64 a.root] 24, hNodes (.slice p.1 a.nodes.length p.2) a.nodes, blk b4 [.slice A2 b.nodes.length c2, .int .i64 b.root] 24, blk b3 [.slice A1 a.nodes.length c1, .int .i64 a.root] 24])) (fun i => i ≤ (kidsP a).length) (fun i => (kidsP a).length - i) KpA SubA (fun w' hw => by
          simp only [List.drop_zero]
          exact St.inc IncA hw) (Nat.zero_le _) ?_
        intro i hi
        by_cases hlt : i < (kidsP a).length
        · have hck : decide ((i : Int) < ((kidsP a).length : Int)) = true := by simp [hlt]
          have hd : (kidsP a).drop i = (kidsP a)[i] :: (kidsP a).drop (i + 1) := List.drop_eq_getElem_cons hlt
          have hwx := hwk _ (List.getElem_mem hlt)
          generalize (kidsP a)[i] = x at *
          rw [hd]
          refine TC.ex (fun w hw => St.openTR (rows := rows.drop i) (t := x) (ts := (kidsP a).drop (i + 1)) (St.del DelA hw)) (fun y => ?_)
          obtain ⟨⟨⟨Ax, cx⟩, rs⟩, hrs⟩ := y
          simp only at hrs
          have hrow : rows[i]? = some [.slice Ax x.nodes.length cx, .int .i64 x.root] := by
            have := congrArg (fun l => l[0]?) hrs
            simpa using this
          have hrs2 : rs = rows.drop (i + 1) := by
            have := congrArg List.tail hrs
            simpa using this.symm
          dsimp only
          rw [hrs2]
          repeat' (first | (refine W1 ?_) | (refine W2 (fun hc => ?_) (fun hc => ?_)) | (intro _))
          refine T.callM (val := fun _ : Unit => .tuple #[]) rfl rfl (fun w' hw' => spoil_any Ax cx x.nodes x.root w' hwx.len (fun m hm => (hwx.nodes m hm).kids.1) (St.del DelA hw')) (fun _ => ?_)
          repeat' (first | (refine W1 ?_) | (refine W2 (fun hc => ?_) (fun hc => ?_)) | (intro _))
          exact TX.round (i + 1) hlt (by omega) SubA (fun w' hw => St.inc IncA hw)
        · have hck : decide ((i : Int) < ((kidsP a).length : Int)) = false := by simp; omega
          repeat' (first | (refine W1 ?_) | (refine W2 (fun hc => ?_) (fun hc => ?_)) | (intro _))
          exact TX.round (k + 1) (by omega) (by omega) SubA (fun w' hw => St.inc IncA hw)
      · have hck2 : decide ((k : Int) < 2) = false := by simp; omega
        have q3 : decide (a = a) = true := by simp
        repeat' (first | (refine W1 ?_) | (refine W2 (fun hc => ?_) (fun hc => ?_)) | (intro _) | (apply T.callV (f := 22); (exact rfl); (exact rfl); (intro w' hw'; apply exact_any; (first | exact St.old_tree hw' (by assumption) | exact St.get_treeN hw' AtA | exact St.get_tt hw' AtA (by assumption) (by assumption)); (first | exact St.old_tree hw' (by assumption) | exact St.get_treeN hw' AtA | exact St.get_tt hw' AtA (by assumption) (by assumption)); (assumption); (assumption))) | (apply TL.kcallV (f := 22); (exact rfl); (intro w' hw'; apply exact_any; (first | exact St.old_tree hw' (by assumption) | exact St.get_treeN hw' AtA | exact St.get_tt hw' AtA (by assumption) (by assumption)); (first | exact St.old_tree hw' (by assumption) | exact St.get_treeN hw' AtA | exact St.get_tt hw' AtA (by assumption) (by assumption)); (assumption); (assumption)); (exact rfl); (exact rfl); (exact DropA)) | (apply T.callV (f := 16); (exact rfl); (exact rfl); (intro w' hw'; apply works_any; (exact Tab.st hT hw'))) | (apply TL.kcallV (f := 16); (exact rfl); (intro w' hw'; apply works_any; (exact Tab.st hT hw')); (exact rfl); (exact rfl); (exact DropA)))
        exact TX.ret_tmp rfl rfl (fun w' hw => RetV.eq hw rfl)
end Go.Proofs.YtlhkkngpppcfoaaDoor
