/-
  The law ExprHead, walked: it answers true for every tree.
-/
import Derived.Test.YtlhkkngpppcfoaaDoorAwake5
set_option linter.all false
namespace Go.Proofs.YtlhkkngpppcfoaaDoor
open Go Go.Sl Go.RowKit Go.Bonsai
set_option linter.unusedVariables false
set_option linter.unusedSimpArgs false

set_option maxHeartbeats 4000000 in
theorem exprHead_any (v1 : Value) (t : Tre) (w : World) (hr1 : RTree (Old w) w v1 t) (hw1 : t.wf) (hT : Tab w) :
    Calls Tryd.prog 12 #[v1] w (RetV w (.bool true)) := by
  have h1 := hr1
  obtain ⟨nv, rfl, A1, c1, rows1, rfl, hA1, hrows1, hc1⟩ := hr1
  have hC1 := h1.c
  clear hA1 hrows1
  refine TC.calls (l := [.agg #[.slice A1 t.nodes.length c1, .int .i64 t.root]]) Tryd.func12 rfl Tryd.ntmps12 rfl (St.start w) ?_
  repeat' (first | (refine W1 ?_) | (refine W2 (fun hc => ?_) (fun hc => ?_)) | (intro _))
  rename_i b1 B
  refine T.callR rfl rfl (fun w' hw' => large5_any _ [t] w' (RTrees.old1b hw' AtA hC1) (by simp) (by intro x hx; simp at hx; subst hx; exact hw1)) (fun bb hb => ?_)
  cases bb with
  | true =>
    repeat' (first | (refine W1 ?_) | (refine W2 (fun hc => ?_) (fun hc => ?_)) | (intro _))
    refine T.callV rfl rfl (fun w' hw' => awake5_any w' (Tab.st hT hw')) ?_
    repeat' (first | (refine W1 ?_) | (refine W2 (fun hc => ?_) (fun hc => ?_)) | (intro _))
    exact TX.ret_tmp rfl rfl (fun w' hw => RetV.eq hw rfl)
  | false =>
  have hS : [t].length + tot [t] + totK [t] < 400 := hb rfl
  have hlt : t.nodes.length < 400 := by have := tot_le (l := [t]) (t := t) (by simp); omega
  clear hb hS
  have hht := head_tail t
  have hwX := makeP_wf hw1
  have hwP := partsP_wf hw1
  obtain ⟨X, hX⟩ : ∃ x, x = makeP t := ⟨_, rfl⟩
  obtain ⟨H, hH⟩ : ∃ x, x = headP t := ⟨_, rfl⟩
  obtain ⟨S, hS⟩ : ∃ x, x = tailP t := ⟨_, rfl⟩
  obtain ⟨e1, e2, e3, e4⟩ := hht
  have hXr := makeP_is t
  have hwH : H.1.wf := by
    rw [hH]; unfold headP
    split
    · exact Tre.zero_wf
    · rename_i x l hpl; exact hwP x (by rw [hpl]; simp)
  have hto := partsP_tot t
  have hlS : S.1.nodes.length ≤ 400 ∧ S.1.wf := by
    rw [hS]; unfold tailP
    split
    · exact ⟨Nat.zero_le _, Tre.zero_wf⟩
    · rename_i x l hpl
      rw [hpl] at hto hwP
      rw [tot_cons] at hto
      have := putP_len seqN0 l
      exact ⟨by omega, putP_wf seqN0_wf (fun y hy => hwP y (by simp [hy])) (by unfold bigN; omega)⟩
  have hlH : H.1.nodes.length ≤ 400 := by
    rw [hH]; unfold headP
    split
    · exact Nat.zero_le _
    · rename_i x l hpl
      rw [hpl] at hto
      have := tot_le (l := x :: l) (t := x) (by simp)
      show x.nodes.length ≤ 400
      omega
  have hlX := makeP_len t
  rw [← hH, ← hS] at e1
  rw [← hH, ← hX] at e2
  rw [← hH, ← hS] at e3
  rw [← hH, ← hS, ← hX] at e4
  rw [← hX] at hXr hwX hlX
  obtain ⟨hlS, hwS⟩ := hlS
  have cX : ∀ w' v, RTree (Old w') w' v t → Tab w' → Calls Tryd.prog 58 #[v] w' (RetTB w' X) := fun w' v hr hT => by rw [hX]; exact make_any v t w' hr hw1 hT
  have cH : ∀ w' v, RTree (Old w') w' v t → Tab w' → Calls Tryd.prog 74 #[v] w' (RetTB w' H) := fun w' v hr hT => by rw [hH]; exact ehead_any v t w' hr hw1 hT
  have cS : ∀ w' v, RTree (Old w') w' v t → Tab w' → Calls Tryd.prog 75 #[v] w' (RetTB w' S) := fun w' v hr hT => by rw [hS]; exact etail_any v t w' hr hw1 (by unfold bigN; omega) hT
  clear hX hH hS hwP hto
  repeat' (first | (refine W1 ?_) | (refine W2 (fun hc => ?_) (fun hc => ?_)) | (intro _))
  refine T.callV rfl rfl (fun w' hw' => awake5_any w' (Tab.st hT hw')) ?_
  repeat' (first | (refine W1 ?_) | (refine W2 (fun hc => ?_) (fun hc => ?_)) | (intro _))
  refine T.callR rfl rfl (fun w' hw' => cX w' _ (St.old_tree hw' h1) (Tab.st hT hw')) (fun q1 _ => ?_)
  repeat' (first | (refine W1 ?_) | (refine W2 (fun hc => ?_) (fun hc => ?_)) | (intro _))
  rename_i b3
  refine T.callR rfl rfl (fun w' hw' => cH w' _ (St.old_tree hw' h1) (Tab.st hT hw')) (fun q2 _ => ?_)
  repeat' (first | (refine W1 ?_) | (refine W2 (fun hc => ?_) (fun hc => ?_)) | (intro _))
  rename_i b5
  refine T.callR rfl rfl (fun w' hw' => cS w' _ (St.old_tree hw' h1) (Tab.st hT hw')) (fun q3 _ => ?_)
  repeat' (first | (refine TC.hold 6 ?_) | (refine W1 ?_) | (refine W2 (fun hc => ?_) (fun hc => ?_)) | (intro _))
  rename_i b7
  have k1 : (!(H.2 == S.2)) = false := by rw [e1]; simp
  refine ⟨TC.cutA (ι := Unit) (fun _ r => r) (fun _ => St w [blk b7 [.slice q3.1 S.1.nodes.length q3.2, .int .i64 S.1.root] 24, hNodes (.slice q3.1 S.1.nodes.length q3.2) S.1.nodes, blk b5 [.slice q2.1 H.1.nodes.length q2.2, .int .i64 H.1.root] 24, hNodes (.slice q2.1 H.1.nodes.length q2.2) H.1.nodes, blk b3 [.slice q1.1 X.1.nodes.length q1.2, .int .i64 X.1.root] 24, hNodes (.slice q1.1 X.1.nodes.length q1.2) X.1.nodes]) KpA ?_ (fun _ => ?_)⟩
  · cases hXo : X.2 with
    | false =>
      have k2 : (!(H.2 == false)) = false := by rw [e2, hXo]; rfl
      obtain ⟨X1, X2⟩ := X
      simp only at hXo
      subst hXo
      repeat' (first | (refine W1 ?_) | (refine W2 (fun hc => ?_) (fun hc => ?_)) | (intro _))
      exact TX.join () SubA (fun w' hw => St.inc IncQ hw)
    | true =>
      have k2 : (!(H.2 == !decide ((rootP X.1).kind = 0))) = false := by rw [e2, hXo]; simp
      obtain ⟨X1, X2⟩ := X
      simp only at hXo k2 hwX
      subst hXo
      repeat' (first | (refine W1 ?_) | (refine W2 (fun hc => ?_) (fun hc => ?_)) | (intro _))
      refine T.callV rfl rfl (fun w' hw' => root_any _ X1 w' (St.get_treeN (A := q1.1) (c := q1.2) hw' AtA) hwX (Tab.st hT hw')) ?_
      repeat' (first | (refine W1 ?_) | (refine W2 (fun hc => ?_) (fun hc => ?_)) | (intro _))
      exact TX.join () SubA (fun w' hw => St.inc IncQ hw)
  cases hHo : H.2 with
  | false =>
    obtain ⟨z1, z2⟩ := e3 hHo
    have hn1 : H.1.nodes.length = 0 := by rw [z1]; rfl
    have hn2 : S.1.nodes.length = 0 := by rw [z2]; rfl
    have hI : I64 ((H.1.nodes.length : Int) + (S.1.nodes.length : Int)) := by unfold I64; omega
    have k3 : (!H.2) = true := by rw [hHo]; rfl
    repeat' (first | (refine W1 ?_) | (refine W2 (fun hc => ?_) (fun hc => ?_)) | (intro _))
    exact TX.ret_tmp rfl rfl (fun w' hw => RetV.eq hw (congrArg Value.bool (decide_eq_true (by rw [hn1, hn2]; rfl))))
  | true =>
    obtain ⟨p1, p2, p3, ⟨F1, n1⟩, F2, n2⟩ := e4 hHo
    have k3 : (!H.2) = false := by rw [hHo]; rfl
    have hX2 : X.2 = true := by
      rw [e2, Bool.and_eq_true] at hHo; exact hHo.1
    have k4 : (X.2 && decide (X.1 = X.1)) = true := by rw [hX2]; simp
    have k5 : (!decide ((rootP H.1).kind = 4)) = true := by simp [p2]
    have k6 : (!decide ((rootP H.1).kind = 0)) = true := by simp [p3]
    have k7 := n1.normal
    have k8 := n2.normal
    have cY : ∀ w' v, RTrees (Old w') w' v [H.1, S.1] → Tab w' → Calls Tryd.prog 55 #[v] w' (RetTB w' X) := fun w' v hr hT => by
      rw [← p1]
      exact eseq_any v _ w' hr (by unfold bigN; simp) (by intro y hy; simp at hy; rcases hy with rfl | rfl <;> assumption) (by simp only [tot, List.map_cons, List.map_nil, List.sum_cons, List.sum_nil]; unfold bigN; omega) hT
    repeat' (first | (refine W1 ?_) | (refine W2 (fun hc => ?_) (fun hc => ?_)) | (intro _))
    refine T.callR rfl rfl (fun w' hw' => cY w' _ (RTrees.of rfl hw' .here (All2.more (St.get_treeN (A := q2.1) (c := q2.2) hw' AtA).c (All2.more (St.get_treeN (A := q3.1) (c := q3.2) hw' AtA).c .nil))) (Tab.st hT hw')) (fun q4 _ => ?_)
    repeat' (first | (refine W1 ?_) | (refine W2 (fun hc => ?_) (fun hc => ?_)) | (intro _))
    rename_i b9
    refine T.callV rfl rfl (fun w' hw' => root_any _ H.1 w' (St.get_treeN (A := q2.1) (c := q2.2) hw' AtA) hwH (Tab.st hT hw')) ?_
    repeat' (first | (refine W1 ?_) | (refine W2 (fun hc => ?_) (fun hc => ?_)) | (intro _))
    refine T.callV rfl rfl (fun w' hw' => is5_any _ _ X.1 X.1 X.2 w' (St.get_treeN (A := q4.1) (c := q4.2) hw' AtA) (St.get_treeN (A := q1.1) (c := q1.2) hw' AtA) hwX hwX) ?_
    repeat' (first | (refine W1 ?_) | (refine W2 (fun hc => ?_) (fun hc => ?_)) | (intro _))
    refine T.callV rfl rfl (fun w' hw' => enormal_any _ H.1 w' (St.get_treeN (A := q2.1) (c := q2.2) hw' AtA) hwH (Tab.st hT hw')) ?_
    repeat' (first | (refine W1 ?_) | (refine W2 (fun hc => ?_) (fun hc => ?_)) | (intro _))
    refine T.callV rfl rfl (fun w' hw' => enormal_any _ S.1 w' (St.get_treeN (A := q3.1) (c := q3.2) hw' AtA) hwS (Tab.st hT hw')) ?_
    repeat' (first | (refine W1 ?_) | (refine W2 (fun hc => ?_) (fun hc => ?_)) | (intro _))
    exact TX.ret_tmp rfl rfl (fun w' hw => RetV.eq hw (congrArg Value.bool k8))
end Go.Proofs.YtlhkkngpppcfoaaDoor
