/-
  The law TreeSame, walked: it answers true for every three trees.
-/
import Derived.Test.YtlhkkngpppcfoaaDoorWorks
import Derived.Test.YtlhkkngpppcfoaaDoorExact
set_option linter.all false
namespace Go.Bonsai
open Go Go.Sl Go.RowKit
theorem RTrees.old3 {w0 w : World} {L : List HP} {A1 A2 A3 : Option Addr} {c1 c2 c3 e : Nat} {B : Nat} {t1 t2 t3 : Tre} (hw : St w0 L w) (ha : At L (own e 2 (some ⟨B, 0, none⟩) 3 3 [[.slice A1 t1.nodes.length c1, .int .i64 t1.root], [.slice A2 t2.nodes.length c2, .int .i64 t2.root], [.slice A3 t3.nodes.length c3, .int .i64 t3.root]]))
    (h1 : RTreeC (Old w0) w0 [.slice A1 t1.nodes.length c1, .int .i64 t1.root] t1) (h2 : RTreeC (Old w0) w0 [.slice A2 t2.nodes.length c2, .int .i64 t2.root] t2) (h3 : RTreeC (Old w0) w0 [.slice A3 t3.nodes.length c3, .int .i64 t3.root] t3) :
    RTrees (Old w) w (.slice (some ⟨B, 0, none⟩) 3 3) [t1, t2, t3] :=
  ⟨some ⟨B, 0, none⟩, 3, _, rfl, St.own_arr hw ha, All2.snoc (l := [_, _]) (m := [_, _]) (All2.snoc (l := [_]) (m := [_]) (All2.snoc (l := []) (m := []) .nil (St.old_treeC hw h1)) (St.old_treeC hw h2)) (St.old_treeC hw h3), Nat.le_refl _⟩
end Go.Bonsai
namespace Go.Proofs.YtlhkkngpppcfoaaDoor
open Go Go.Sl Go.RowKit Go.Bonsai
set_option linter.unusedVariables false
set_option linter.unusedSimpArgs false

set_option maxHeartbeats 2000000 in
theorem treeSame_any (v1 v2 v3 : Value) (a b c : Tre) (w : World) (hr1 : RTree (Old w) w v1 a) (hr2 : RTree (Old w) w v2 b) (hr3 : RTree (Old w) w v3 c) (hw1 : a.wf) (hw2 : b.wf) (hw3 : c.wf) (hT : Tab w) :
    Calls Tryd.prog 5 #[v1, v2, v3] w (RetV w (.bool true)) := by
  have h1 := hr1
  have h2 := hr2
  have h3 := hr3
  obtain ⟨nv, rfl, A1, c1, rows1, rfl, hA1, hrows1, hc1⟩ := hr1
  obtain ⟨nv, rfl, A2, c2, rows2, rfl, hA2, hrows2, hc2⟩ := hr2
  obtain ⟨nv, rfl, A3, c3, rows3, rfl, hA3, hrows3, hc3⟩ := hr3
  have hC1 : RTreeC (Old w) w [.slice A1 a.nodes.length c1, .int .i64 a.root] a := ⟨A1, c1, rfl, A1, c1, rows1, rfl, hA1, hrows1, hc1⟩
  have hC2 : RTreeC (Old w) w [.slice A2 b.nodes.length c2, .int .i64 b.root] b := ⟨A2, c2, rfl, A2, c2, rows2, rfl, hA2, hrows2, hc2⟩
  have hC3 : RTreeC (Old w) w [.slice A3 c.nodes.length c3, .int .i64 c.root] c := ⟨A3, c3, rfl, A3, c3, rows3, rfl, hA3, hrows3, hc3⟩
  clear hA1 hA2 hA3 hrows1 hrows2 hrows3
  have hwx := cleanP_wf hw1
  have hwy := cleanP_wf hw2
  refine TC.calls (l := [.agg #[.slice A1 a.nodes.length c1, .int .i64 a.root], .agg #[.slice A2 b.nodes.length c2, .int .i64 b.root], .agg #[.slice A3 c.nodes.length c3, .int .i64 c.root]]) Tryd.func5 rfl Tryd.ntmps5 rfl (St.start w) ?_
  repeat' (first | (refine W1 ?_) | (refine W2 (fun hc => ?_) (fun hc => ?_)) | (intro _))
  rename_i b0 b1 b2
  refine T.callV rfl rfl (fun w' hw' => works_any w' (Tab.st hT hw')) ?_
  repeat' (first | (refine W1 ?_) | (refine W2 (fun hc => ?_) (fun hc => ?_)) | (intro _))
  rename_i B
  refine T.callR rfl rfl (fun w' hw' => long_any _ [a, b, c] w' (RTrees.old3 hw' AtA hC1 hC2 hC3) (by unfold bigN; simp) (by intro x hx; simp at hx; rcases hx with rfl | rfl | rfl <;> assumption)) (fun bb hb => ?_)
  cases bb with
  | true =>
    repeat' (first | (refine W1 ?_) | (refine W2 (fun hc => ?_) (fun hc => ?_)) | (intro _))
    refine T.callV rfl rfl (fun w' hw' => works_any w' (Tab.st hT hw')) ?_
    repeat' (first | (refine W1 ?_) | (refine W2 (fun hc => ?_) (fun hc => ?_)) | (intro _))
    exact TX.ret_tmp rfl rfl (fun w' hw => RetV.eq hw rfl)
  | false =>
  repeat' (first | (refine TC.holdR 3 ?_) | (refine W1 ?_) | (refine W2 (fun hc => ?_) (fun hc => ?_)) | (intro _))
  refine ⟨TC.cutA (ι := (Nat × Nat) × (Option Addr × Nat) × (Option Addr × Nat)) (fun k r => (7, .pointer (some ⟨k.1.1, 0, none⟩)) :: (8, .pointer (some ⟨k.1.2, 0, none⟩)) :: r) (fun k => St w [blk k.1.1 [.slice k.2.1.1 (cleanP a).nodes.length k.2.1.2, .int .i64 (cleanP a).root] 24, blk k.1.2 [.slice k.2.2.1 (cleanP b).nodes.length k.2.2.2, .int .i64 (cleanP b).root] 24, hNodes (.slice k.2.1.1 (cleanP a).nodes.length k.2.1.2) (cleanP a).nodes, hNodes (.slice k.2.2.1 (cleanP b).nodes.length k.2.2.2) (cleanP b).nodes,
      blk b2 [.slice A3 c.nodes.length c3, .int .i64 c.root] 24, blk b1 [.slice A2 b.nodes.length c2, .int .i64 b.root] 24, blk b0 [.slice A1 a.nodes.length c1, .int .i64 a.root] 24]) KpA
    (TC.lexT [] (.seg [0, 2] (.both (.seg [1] (.both (.seg [3] (.both (.seg [4, 5, 6, 7] .fin) (.seg [5, 4, 6, 7] .fin))) (.both (.seg [4] (.both (.seg [3, 5, 6, 7] .fin) (.seg [5, 3, 6, 7] .fin))) (.seg [5] (.both (.seg [3, 4, 6, 7] .fin) (.seg [4, 3, 6, 7] .fin)))))) (.both (.seg [4] (.both (.seg [1] (.both (.seg [3, 5, 6, 7] .fin) (.seg [5, 3, 6, 7] .fin))) (.seg [5, 1, 3, 6, 7] .fin))) (.seg [5] (.both (.seg [1] (.both (.seg [3, 4, 6, 7] .fin) (.seg [4, 3, 6, 7] .fin))) (.seg [4, 1, 3, 6, 7] .fin)))))) mixed (by kernel_rfl) (TT.seg rfl ?_)) (fun x => ?_)⟩
  · repeat' (first | (refine TL.kcall rfl rfl DropA (Cl.callR rfl (fun w' hw' => clean_any _ a w' (St.old_tree hw' h1) hw1 (Tab.st hT hw'))) Drop2A (fun p1 => ?_)) | (refine TL.kcall rfl rfl DropA (Cl.callR rfl (fun w' hw' => clean_any _ b w' (St.old_tree hw' h2) hw2 (Tab.st hT hw'))) Drop2A (fun p1 => ?_)) | (apply TX.tree) | (apply TT.both) | ((apply TT.seg; exact rfl)) | (apply TT.fin) | (refine W1l ?_) | (refine W2 (fun hc => ?_) (fun hc => ?_)) | (intro _))
    all_goals (apply TX.join ((_, _), _, _); exact SubA; exact fun w' hw => St.inc IncA hw)
  obtain ⟨⟨b7, b8⟩, px, py⟩ := x
  dsimp only
  have e1 := right_clean a
  have e2 := clean_clean a
  have q1 : (!(rightP a == rightP (cleanP a))) = false := by rw [e1]; simp
  have q2 : (!decide (cleanP (cleanP a) = cleanP a)) = false := by simp [e2]
  refine TC.cutA (ι := Unit) (fun _ r => r) (fun _ => St w [blk b7 [.slice px.1 (cleanP a).nodes.length px.2, .int .i64 (cleanP a).root] 24, blk b8 [.slice py.1 (cleanP b).nodes.length py.2, .int .i64 (cleanP b).root] 24, hNodes (.slice px.1 (cleanP a).nodes.length px.2) (cleanP a).nodes, hNodes (.slice py.1 (cleanP b).nodes.length py.2) (cleanP b).nodes,
      blk b2 [.slice A3 c.nodes.length c3, .int .i64 c.root] 24, blk b1 [.slice A2 b.nodes.length c2, .int .i64 b.root] 24, blk b0 [.slice A1 a.nodes.length c1, .int .i64 a.root] 24]) KpA ?_ (fun _ => ?_)
  · cases hA : rightP a with
    | false =>
      repeat' (first | (refine W1 ?_) | (refine W2 (fun hc => ?_) (fun hc => ?_)) | (intro _))
      refine TL.kcall rfl rfl DropA (Cl.callV rfl (fun w' hw' => right_any _ a w' (St.old_tree hw' h1) hw1 (Tab.st hT hw'))) (fun _ _ h => by first | exact h | exact h.drop 1) (fun _ => ?_)
      repeat' (first | (refine W1 ?_) | (refine W2 (fun hc => ?_) (fun hc => ?_)) | (intro _))
      refine TL.kcall rfl rfl DropA (Cl.callV rfl (fun w' hw' => right_any _ (cleanP a) w' (St.get_treeN hw' AtA) hwx (Tab.st hT hw'))) (fun _ _ h => by first | exact h | exact h.drop 1) (fun _ => ?_)
      repeat' (first | (refine W1 ?_) | (refine W2 (fun hc => ?_) (fun hc => ?_)) | (intro _))
      refine TL.kcall rfl rfl DropA (Cl.callR rfl (fun w' hw' => clean_any _ (cleanP a) w' (St.get_treeN hw' AtA) hwx (Tab.st hT hw'))) Drop2A (fun pz => ?_)
      repeat' (first | (refine W1 ?_) | (refine W2 (fun hc => ?_) (fun hc => ?_)) | (intro _))
      refine TL.kcall rfl rfl DropA (Cl.callV rfl (fun w' hw' => exact_any _ _ (cleanP (cleanP a)) (cleanP a) w' (St.get_treeN hw' AtA) (St.get_treeN hw' AtA) (cleanP_wf hwx) hwx)) (fun _ _ h => by first | exact h | exact h.drop 1) (fun _ => ?_)
      repeat' (first | (refine W1 ?_) | (refine W2 (fun hc => ?_) (fun hc => ?_)) | (intro _))
      refine TL.kcall rfl rfl DropA (Cl.callV rfl (fun w' hw' => right_any _ a w' (St.old_tree hw' h1) hw1 (Tab.st hT hw'))) (fun _ _ h => by first | exact h | exact h.drop 1) (fun _ => ?_)
      repeat' (first | (refine W1 ?_) | (refine W2 (fun hc => ?_) (fun hc => ?_)) | (intro _))
      apply TX.join (); exact SubA; exact fun w' hw => St.inc IncA hw
    | true =>
      have q3 : (!sameP a (cleanP a)) = false := by rw [same_clean hA]; rfl
      repeat' (first | (refine W1 ?_) | (refine W2 (fun hc => ?_) (fun hc => ?_)) | (intro _))
      refine TL.kcall rfl rfl DropA (Cl.callV rfl (fun w' hw' => right_any _ a w' (St.old_tree hw' h1) hw1 (Tab.st hT hw'))) (fun _ _ h => by first | exact h | exact h.drop 1) (fun _ => ?_)
      repeat' (first | (refine W1 ?_) | (refine W2 (fun hc => ?_) (fun hc => ?_)) | (intro _))
      refine TL.kcall rfl rfl DropA (Cl.callV rfl (fun w' hw' => right_any _ (cleanP a) w' (St.get_treeN hw' AtA) hwx (Tab.st hT hw'))) (fun _ _ h => by first | exact h | exact h.drop 1) (fun _ => ?_)
      repeat' (first | (refine W1 ?_) | (refine W2 (fun hc => ?_) (fun hc => ?_)) | (intro _))
      refine TL.kcall rfl rfl DropA (Cl.callR rfl (fun w' hw' => clean_any _ (cleanP a) w' (St.get_treeN hw' AtA) hwx (Tab.st hT hw'))) Drop2A (fun pz => ?_)
      repeat' (first | (refine W1 ?_) | (refine W2 (fun hc => ?_) (fun hc => ?_)) | (intro _))
      refine TL.kcall rfl rfl DropA (Cl.callV rfl (fun w' hw' => exact_any _ _ (cleanP (cleanP a)) (cleanP a) w' (St.get_treeN hw' AtA) (St.get_treeN hw' AtA) (cleanP_wf hwx) hwx)) (fun _ _ h => by first | exact h | exact h.drop 1) (fun _ => ?_)
      repeat' (first | (refine W1 ?_) | (refine W2 (fun hc => ?_) (fun hc => ?_)) | (intro _))
      refine TL.kcall rfl rfl DropA (Cl.callV rfl (fun w' hw' => right_any _ a w' (St.old_tree hw' h1) hw1 (Tab.st hT hw'))) (fun _ _ h => by first | exact h | exact h.drop 1) (fun _ => ?_)
      repeat' (first | (refine W1 ?_) | (refine W2 (fun hc => ?_) (fun hc => ?_)) | (intro _))
      refine TL.kcall rfl rfl DropA (Cl.callV rfl (fun w' hw' => sameT_any _ _ a (cleanP a) w' (St.old_tree hw' h1) (St.get_treeN hw' AtA) hw1 hwx (Tab.st hT hw'))) (fun _ _ h => by first | exact h | exact h.drop 1) (fun _ => ?_)
      repeat' (first | (refine W1 ?_) | (refine W2 (fun hc => ?_) (fun hc => ?_)) | (intro _))
      apply TX.join (); exact SubA; exact fun w' hw => St.inc IncA hw
  clear q1 q2 e1 e2
  repeat' (first | (refine W1 ?_) | (refine W2 (fun hc => ?_) (fun hc => ?_)) | (intro _))
  refine TL.kcall rfl rfl DropA (Cl.callV rfl (fun w' hw' => sameT_any _ _ a b w' (St.old_tree hw' h1) (St.old_tree hw' h2) hw1 hw2 (Tab.st hT hw'))) (fun _ _ h => by first | exact h | exact h.drop 1) (fun _ => ?_)
  repeat' (first | (refine W1 ?_) | (refine W2 (fun hc => ?_) (fun hc => ?_)) | (intro _))
  refine TL.kcall rfl rfl DropA (Cl.callV rfl (fun w' hw' => sameT_any _ _ b c w' (St.old_tree hw' h2) (St.old_tree hw' h3) hw2 hw3 (Tab.st hT hw'))) (fun _ _ h => by first | exact h | exact h.drop 1) (fun _ => ?_)
  repeat' (first | (refine W1 ?_) | (refine W2 (fun hc => ?_) (fun hc => ?_)) | (intro _))
  refine TL.kcall rfl rfl DropA (Cl.callV rfl (fun w' hw' => sameT_any _ _ a c w' (St.old_tree hw' h1) (St.old_tree hw' h3) hw1 hw3 (Tab.st hT hw'))) (fun _ _ h => by first | exact h | exact h.drop 1) (fun _ => ?_)
  repeat' (first | (refine TC.holdR 7 ?_) | (refine W1 ?_) | (refine W2 (fun hc => ?_) (fun hc => ?_)) | (intro _))
  refine ⟨?_⟩
  apply TC.seq
  refine TC.lexT [] (.seg [0, 1, 2, 3, 4, 5, 6, 7, 8, 9, 10, 11, 12, 13, 14, 15, 17, 16, 18, 19, 20, 21, 22, 24, 23, 25, 26, 27] .fin) mixed (by kernel_rfl) (TT.seg rfl ?_)
  repeat' (first | (refine W1 ?_) | (refine W2 (fun hc => ?_) (fun hc => ?_)) | (intro _))
  have s3 : (!(sameP a a == rightP a)) = false := by rw [same_self]; simp
  have s2 : (!(sameP b a == sameP a b)) = false := by rw [same_comm]; simp
  have s1 := same_exact a b
  have s4 := @same_trans a b c
  cases hA : rightP a with
  | false =>
    have s0 : (!(sameP a b == false)) = false := by rw [s1, hA]; rfl
    refine TL.kcall rfl rfl DropA (Cl.callV rfl (fun w' hw' => right_any _ a w' (St.old_tree hw' h1) hw1 (Tab.st hT hw'))) (fun _ _ h => by first | exact h | exact h.drop 1) (fun _ => ?_)
    repeat' (first | (refine W1 ?_) | (refine W2 (fun hc => ?_) (fun hc => ?_)) | (intro _))
    refine TL.kcall rfl rfl DropA (Cl.callV rfl (fun w' hw' => sameT_any _ _ b a w' (St.old_tree hw' h2) (St.old_tree hw' h1) hw2 hw1 (Tab.st hT hw'))) (fun _ _ h => by first | exact h | exact h.drop 1) (fun _ => ?_)
    repeat' (first | (refine W1 ?_) | (refine W2 (fun hc => ?_) (fun hc => ?_)) | (intro _))
    refine TL.kcall rfl rfl DropA (Cl.callV rfl (fun w' hw' => sameT_any _ _ a a w' (St.old_tree hw' h1) (St.old_tree hw' h1) hw1 hw1 (Tab.st hT hw'))) (fun _ _ h => by first | exact h | exact h.drop 1) (fun _ => ?_)
    repeat' (first | (refine W1 ?_) | (refine W2 (fun hc => ?_) (fun hc => ?_)) | (intro _))
    refine TL.kcall rfl rfl DropA (Cl.callV rfl (fun w' hw' => right_any _ a w' (St.old_tree hw' h1) hw1 (Tab.st hT hw'))) (fun _ _ h => by first | exact h | exact h.drop 1) (fun _ => ?_)
    repeat' (first | (apply TX.tree) | (apply TT.fin) | (refine W1 ?_) | (refine W2 (fun hc => ?_) (fun hc => ?_)) | (intro _))
    all_goals refine TX.ret_tmp rfl rfl (fun w' hw => RetV.eq hw ?_)
    all_goals simp_all
  | true =>
    cases hB : rightP b with
    | false =>
      have s0 : (!(sameP a b == false)) = false := by rw [s1, hA, hB]; rfl
      refine TL.kcall rfl rfl DropA (Cl.callV rfl (fun w' hw' => right_any _ a w' (St.old_tree hw' h1) hw1 (Tab.st hT hw'))) (fun _ _ h => by first | exact h | exact h.drop 1) (fun _ => ?_)
      repeat' (first | (refine W1 ?_) | (refine W2 (fun hc => ?_) (fun hc => ?_)) | (intro _))
      refine TL.kcall rfl rfl DropA (Cl.callV rfl (fun w' hw' => right_any _ b w' (St.old_tree hw' h2) hw2 (Tab.st hT hw'))) (fun _ _ h => by first | exact h | exact h.drop 1) (fun _ => ?_)
      repeat' (first | (refine W1 ?_) | (refine W2 (fun hc => ?_) (fun hc => ?_)) | (intro _))
      refine TL.kcall rfl rfl DropA (Cl.callV rfl (fun w' hw' => sameT_any _ _ b a w' (St.old_tree hw' h2) (St.old_tree hw' h1) hw2 hw1 (Tab.st hT hw'))) (fun _ _ h => by first | exact h | exact h.drop 1) (fun _ => ?_)
      repeat' (first | (refine W1 ?_) | (refine W2 (fun hc => ?_) (fun hc => ?_)) | (intro _))
      refine TL.kcall rfl rfl DropA (Cl.callV rfl (fun w' hw' => sameT_any _ _ a a w' (St.old_tree hw' h1) (St.old_tree hw' h1) hw1 hw1 (Tab.st hT hw'))) (fun _ _ h => by first | exact h | exact h.drop 1) (fun _ => ?_)
      repeat' (first | (refine W1 ?_) | (refine W2 (fun hc => ?_) (fun hc => ?_)) | (intro _))
      refine TL.kcall rfl rfl DropA (Cl.callV rfl (fun w' hw' => right_any _ a w' (St.old_tree hw' h1) hw1 (Tab.st hT hw'))) (fun _ _ h => by first | exact h | exact h.drop 1) (fun _ => ?_)
      repeat' (first | (apply TX.tree) | (apply TT.fin) | (refine W1 ?_) | (refine W2 (fun hc => ?_) (fun hc => ?_)) | (intro _))
      all_goals refine TX.ret_tmp rfl rfl (fun w' hw => RetV.eq hw ?_)
      all_goals simp_all
    | true =>
      have s0 : (!(sameP a b == decide (cleanP a = cleanP b))) = false := by rw [s1, hA, hB]; simp
      refine TL.kcall rfl rfl DropA (Cl.callV rfl (fun w' hw' => right_any _ a w' (St.old_tree hw' h1) hw1 (Tab.st hT hw'))) (fun _ _ h => by first | exact h | exact h.drop 1) (fun _ => ?_)
      repeat' (first | (refine W1 ?_) | (refine W2 (fun hc => ?_) (fun hc => ?_)) | (intro _))
      refine TL.kcall rfl rfl DropA (Cl.callV rfl (fun w' hw' => right_any _ b w' (St.old_tree hw' h2) hw2 (Tab.st hT hw'))) (fun _ _ h => by first | exact h | exact h.drop 1) (fun _ => ?_)
      repeat' (first | (refine W1 ?_) | (refine W2 (fun hc => ?_) (fun hc => ?_)) | (intro _))
      refine TL.kcall rfl rfl DropA (Cl.callV rfl (fun w' hw' => exact_any _ _ (cleanP a) (cleanP b) w' (St.get_treeN hw' AtA) (St.get_treeN hw' AtA) hwx hwy)) (fun _ _ h => by first | exact h | exact h.drop 1) (fun _ => ?_)
      repeat' (first | (refine W1 ?_) | (refine W2 (fun hc => ?_) (fun hc => ?_)) | (intro _))
      refine TL.kcall rfl rfl DropA (Cl.callV rfl (fun w' hw' => sameT_any _ _ b a w' (St.old_tree hw' h2) (St.old_tree hw' h1) hw2 hw1 (Tab.st hT hw'))) (fun _ _ h => by first | exact h | exact h.drop 1) (fun _ => ?_)
      repeat' (first | (refine W1 ?_) | (refine W2 (fun hc => ?_) (fun hc => ?_)) | (intro _))
      refine TL.kcall rfl rfl DropA (Cl.callV rfl (fun w' hw' => sameT_any _ _ a a w' (St.old_tree hw' h1) (St.old_tree hw' h1) hw1 hw1 (Tab.st hT hw'))) (fun _ _ h => by first | exact h | exact h.drop 1) (fun _ => ?_)
      repeat' (first | (refine W1 ?_) | (refine W2 (fun hc => ?_) (fun hc => ?_)) | (intro _))
      refine TL.kcall rfl rfl DropA (Cl.callV rfl (fun w' hw' => right_any _ a w' (St.old_tree hw' h1) hw1 (Tab.st hT hw'))) (fun _ _ h => by first | exact h | exact h.drop 1) (fun _ => ?_)
      repeat' (first | (apply TX.tree) | (apply TT.fin) | (refine W1 ?_) | (refine W2 (fun hc => ?_) (fun hc => ?_)) | (intro _))
      all_goals refine TX.ret_tmp rfl rfl (fun w' hw => RetV.eq hw ?_)
      all_goals simp_all
end Go.Proofs.YtlhkkngpppcfoaaDoor
