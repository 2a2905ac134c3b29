/-
  The law ExprNormal, walked: it answers true for every tree and every trees.
-/
import Derived.Test.YtlhkkngpppcfoaaDoorAwake5
set_option linter.all false
namespace Go.Bonsai
open Go Go.Sl Go.RowKit
/-- what is told is nothing, or right, normal, clean -/
structure GoodT (m : Tre × Bool) : Prop where
  wf : m.1.wf
  no : m.2 = false → m.1.nodes.length = 0
  yes : m.2 = true → rightP m.1 = true ∧ normalP m.1 = true ∧ cleanP m.1 = m.1 ∧ makeP m.1 = (m.1, true)
theorem GoodT.nt {m : Tre × Bool} {F : Fo} (hw : m.1.wf) (h2 : m.2 = true) (h : NT m.1 F) : GoodT m := ⟨hw, fun e => (by rw [h2] at e; cases e), fun _ => ⟨h.right, h.normal, h.clean, h.make⟩⟩
theorem good_make {t : Tre} (h : t.wf) : GoodT (makeP t) := by
  cases hr : rightP t with
  | true => exact GoodT.nt (makeP_wf h) (by rw [makeP_is, hr]) (makeP_nt hr)
  | false => exact ⟨makeP_wf h, fun _ => by rw [makeP_no hr]; rfl, fun e => by rw [makeP_is, hr] at e; cases e⟩
theorem good_put {n : Nod} {l : List Tre} (hn : n.wf) (hk : n.kids = []) (hf : fitsK n l.length = true) (hl : ∀ t ∈ l, t.wf) (ht : tot l + 1 ≤ bigN) : GoodT (putP n l) := by
  cases hr : allR l with
  | true => exact GoodT.nt (putP_wf hn hl ht) (by rw [putP_is, hr, hf]; rfl) (putP_nt hk hf hr)
  | false => exact ⟨putP_wf hn hl ht, fun _ => by rw [putP_no2 hr]; rfl, fun e => by rw [putP_is, hr, Bool.and_false] at e; cases e⟩
theorem hTR_three' {w0 w : World} {L : List HP} {A1 A2 A3 : Option Addr} {c1 c2 c3 : Nat} {t1 t2 t3 : Tre} (h : St w0 (hNodes (.slice A1 t1.nodes.length c1) t1.nodes :: hNodes (.slice A2 t2.nodes.length c2) t2.nodes :: hNodes (.slice A3 t3.nodes.length c3) t3.nodes :: L) w) :
    St w0 (hTR [[.slice A1 t1.nodes.length c1, .int .i64 t1.root], [.slice A2 t2.nodes.length c2, .int .i64 t2.root], [.slice A3 t3.nodes.length c3, .int .i64 t3.root]] [t1, t2, t3] :: L) w := by
  have h1 := St.weak (H' := hTR [[.slice A1 t1.nodes.length c1, .int .i64 t1.root]] [t1]) (fun S w h => hTR_one h) h
  have h2 := St.joinX (K := hTR ([[.slice A1 t1.nodes.length c1, .int .i64 t1.root]] ++ [[.slice A2 t2.nodes.length c2, .int .i64 t2.root]]) ([t1] ++ [t2])) (fun S S' w h h' hd => hTR_snoc h h' hd) h1.swap
  have h3 := St.joinX (K := hTR (([[.slice A1 t1.nodes.length c1, .int .i64 t1.root]] ++ [[.slice A2 t2.nodes.length c2, .int .i64 t2.root]]) ++ [[.slice A3 t3.nodes.length c3, .int .i64 t3.root]]) (([t1] ++ [t2]) ++ [t3])) (fun S S' w h h' hd => hTR_snoc h h' hd) h2.swap
  exact h3
end Go.Bonsai
namespace Go.Proofs.YtlhkkngpppcfoaaDoor
open Go Go.Sl Go.RowKit Go.Bonsai
set_option linter.unusedVariables false
set_option linter.unusedSimpArgs false

set_option maxHeartbeats 8000000 in
theorem exprNormal_any (v1 v2 : Value) (t : Tre) (l : List Tre) (w : World) (hr1 : RTree (Old w) w v1 t) (hr2 : RTrees (Old w) w v2 l) (hw1 : t.wf) (hll : l.length ≤ 4398046511104) (hwl : ∀ t ∈ l, t.wf) (hT : Tab w) :
    Calls Tryd.prog 15 #[v1, v2] w (RetV w (.bool true)) := by
  have h1 := hr1
  have h2 := hr2
  obtain ⟨nv, rfl, A1, c1, rows1, rfl, hA1, hrows1, hc1⟩ := hr1
  obtain ⟨A, c, rows0, rfl, hA, hrows, hc⟩ := hr2
  have hC1 := h1.c
  clear hA1 hrows1
  refine TC.calls (l := [.agg #[.slice A1 t.nodes.length c1, .int .i64 t.root], .slice A l.length c]) Tryd.func15 rfl Tryd.ntmps15 rfl (St.start w) ?_
  repeat' (first | (refine W1 ?_) | (refine W2 (fun hc => ?_) (fun hc => ?_)) | (intro _))
  rename_i b1 B
  refine T.callR rfl rfl (fun w' hw' => large5_any _ [t] w' (RTrees.old1b hw' AtA hC1) (by simp) (by intro x hx; simp at hx; subst hx; exact hw1)) (fun bb hb => ?_)
  cases bb with
  | true =>
    repeat' (first | (refine W1 ?_) | (refine W2 (fun hc => ?_) (fun hc => ?_)) | (intro _))
    refine T.callV rfl rfl (fun w' hw' => awake5_any w' (Tab.st hT hw')) ?_
    repeat' (first | (refine W1 ?_) | (refine W2 (fun hc => ?_) (fun hc => ?_)) | (intro _))
    exact TX.ret_tmp rfl rfl (fun w' hw => RetV.eq hw rfl)
  | false =>
  clear hb
  repeat' (first | (refine W1 ?_) | (refine W2 (fun hc => ?_) (fun hc => ?_)) | (intro _))
  refine T.callR rfl rfl (fun w' hw' => large5_any _ l w' (St.old_trees hw' h2) hll hwl) (fun bb hb => ?_)
  cases bb with
  | true =>
    repeat' (first | (refine W1 ?_) | (refine W2 (fun hc => ?_) (fun hc => ?_)) | (intro _))
    refine T.callV rfl rfl (fun w' hw' => awake5_any w' (Tab.st hT hw')) ?_
    repeat' (first | (refine W1 ?_) | (refine W2 (fun hc => ?_) (fun hc => ?_)) | (intro _))
    exact TX.ret_tmp rfl rfl (fun w' hw => RetV.eq hw rfl)
  | false =>
  have hS : l.length + tot l + totK l < 400 := hb rfl
  clear hb hll
  have hto : tot l + 1 ≤ bigN := by unfold bigN; omega
  have gX := good_make hw1
  have gS := good_put (n := seqN0) (l := l) seqN0_wf rfl rfl hwl hto
  have gC := good_put (n := choN0) (l := l) choN0_wf rfl rfl hwl hto
  have hX2 := makeP_is t
  have hS2 : (putP seqN0 l).2 = allR l := by rw [putP_is]; rfl
  have hC2 : (putP choN0 l).2 = allR l := by rw [putP_is]; rfl
  have hsm := normal_same (t := t)
  have cX : ∀ w' v, RTree (Old w') w' v t → Tab w' → Calls Tryd.prog 58 #[v] w' (RetTB w' (makeP t)) := fun w' v hr hT => make_any v t w' hr hw1 hT
  have cS : ∀ w' v, RTrees (Old w') w' v l → Tab w' → Calls Tryd.prog 55 #[v] w' (RetTB w' (putP seqN0 l)) := fun w' v hr hT => eseq_any v l w' hr (by unfold bigN; omega) hwl (by unfold bigN; omega) hT
  have cC : ∀ w' v, RTrees (Old w') w' v l → Tab w' → Calls Tryd.prog 57 #[v] w' (RetTB w' (putP choN0 l)) := fun w' v hr hT => echoice_any v l w' hr (by unfold bigN; omega) hwl (by unfold bigN; omega) hT
  generalize makeP t = X at *
  generalize putP seqN0 l = S at *
  generalize putP choN0 l = C at *
  have k1 : (!(X.2 == rightP t)) = false := by rw [hX2]; simp
  repeat' (first | (refine W1 ?_) | (refine W2 (fun hc => ?_) (fun hc => ?_)) | (intro _))
  refine T.callV rfl rfl (fun w' hw' => awake5_any w' (Tab.st hT hw')) ?_
  repeat' (first | (refine W1 ?_) | (refine W2 (fun hc => ?_) (fun hc => ?_)) | (intro _))
  refine T.callR rfl rfl (fun w' hw' => cX w' _ (St.old_tree hw' h1) (Tab.st hT hw')) (fun q1 _ => ?_)
  repeat' (first | (refine TC.hold 4 ?_) | (refine W1 ?_) | (refine W2 (fun hc => ?_) (fun hc => ?_)) | (intro _))
  rename_i b3
  refine ⟨TC.cutA (ι := Unit) (fun _ r => r) (fun _ => St w [blk b3 [.slice q1.1 X.1.nodes.length q1.2, .int .i64 X.1.root] 24, hNodes (.slice q1.1 X.1.nodes.length q1.2) X.1.nodes]) KpA ?_ (fun _ => ?_)⟩
  · repeat' (first | (refine W1 ?_) | (refine W2 (fun hc => ?_) (fun hc => ?_)) | (intro _))
    refine T.callV rfl rfl (fun w' hw' => right_any _ t w' (St.old_tree hw' h1) hw1 (Tab.st hT hw')) ?_
    repeat' (first | (refine W1 ?_) | (refine W2 (fun hc => ?_) (fun hc => ?_)) | (intro _))
    refine T.callV rfl rfl (fun w' hw' => enormal_any _ t w' (St.old_tree hw' h1) hw1 (Tab.st hT hw')) ?_
    cases hn : normalP t with
    | false =>
      repeat' (first | (refine W1 ?_) | (refine W2 (fun hc => ?_) (fun hc => ?_)) | (intro _))
      exact TX.join () SubA (fun w' hw => St.inc IncQ hw)
    | true =>
      have k2 : (!sameP X.1 t) = false := by rw [hsm hn]; rfl
      repeat' (first | (refine W1 ?_) | (refine W2 (fun hc => ?_) (fun hc => ?_)) | (intro _))
      refine T.callV rfl rfl (fun w' hw' => sameT_any _ _ X.1 t w' (St.get_treeN (A := q1.1) (c := q1.2) hw' AtA) (St.old_tree hw' h1) gX.wf hw1 (Tab.st hT hw')) ?_
      repeat' (first | (refine W1 ?_) | (refine W2 (fun hc => ?_) (fun hc => ?_)) | (intro _))
      exact TX.join () SubA (fun w' hw => St.inc IncQ hw)
  clear hsm k1
  repeat' (first | (refine W1 ?_) | (refine W2 (fun hc => ?_) (fun hc => ?_)) | (intro _))
  refine T.callR rfl rfl (fun w' hw' => cS w' _ (St.old_trees hw' h2) (Tab.st hT hw')) (fun q2 _ => ?_)
  repeat' (first | (refine W1 ?_) | (refine W2 (fun hc => ?_) (fun hc => ?_)) | (intro _))
  rename_i b5
  refine T.callR rfl rfl (fun w' hw' => cC w' _ (St.old_trees hw' h2) (Tab.st hT hw')) (fun q3 _ => ?_)
  repeat' (first | (refine W1 ?_) | (refine W2 (fun hc => ?_) (fun hc => ?_)) | (intro _))
  rename_i b7
  refine TC.loopA (ι := Nat × Bool) (0, true) (fun k r => (12, .int .i64 k.1) :: (11, .bool k.2) :: r) (fun _ => St w [blk b7 [.slice q3.1 C.1.nodes.length q3.2, .int .i64 C.1.root] 24, hNodes (.slice q3.1 C.1.nodes.length q3.2) C.1.nodes, blk b5 [.slice q2.1 S.1.nodes.length q2.2, .int .i64 S.1.root] 24, hNodes (.slice q2.1 S.1.nodes.length q2.2) S.1.nodes, blk b3 [.slice q1.1 X.1.nodes.length q1.2, .int .i64 X.1.root] 24, hNodes (.slice q1.1 X.1.nodes.length q1.2) X.1.nodes])
    (fun k => k.1 ≤ l.length ∧ k.2 = allR (l.take k.1)) (fun k => l.length - k.1) KpA SubA (fun w' hw => St.inc IncQ hw) ⟨Nat.zero_le _, rfl⟩ ?_
  rintro ⟨i, r⟩ ⟨hi, hr⟩
  simp only at hi hr ⊢
  by_cases hlt : i < l.length
  · have hck : decide ((i : Int) < (l.length : Int)) = true := by simp [hlt]
    have hgx : l[i]? = some l[i] := List.getElem?_eq_getElem hlt
    have hmem := List.getElem_mem hlt
    have htk : l.take (i + 1) = l.take i ++ [l[i]] := List.take_succ_eq_append_getElem hlt
    generalize l[i] = x at *
    obtain ⟨cs, hcs, K, kc, rfl, hK⟩ := hrows.get hgx
    have hwx := hwl x hmem
    have hRx : RTree (Old w) w (.agg #[.slice K x.nodes.length kc, .int .i64 x.root]) x := ⟨_, rfl, hK⟩
    have hA' : A = some (A.getD default) := hA.some_ (by omega)
    have hnx : allR (l.take (i + 1)) = (r && rightP x) := by rw [htk, hr]; unfold allR; rw [List.all_append]; simp
    cases r with
    | false =>
      repeat' (first | (refine W1 ?_) | (refine W2 (fun hc => ?_) (fun hc => ?_)) | (intro _))
      exact TX.round (i + 1, false) ⟨hlt, by rw [hnx]; rfl⟩ (show l.length - (i + 1) < l.length - i by omega) SubA (fun w' hw => St.inc IncQ hw)
    | true =>
      repeat' (first | (refine W1 ?_) | (refine W2 (fun hc => ?_) (fun hc => ?_)) | (intro _))
      refine T.callV rfl rfl (fun w' hw' => right_any _ x w' (St.old_tree hw' hRx) hwx (Tab.st hT hw')) ?_
      repeat' (first | (refine W1 ?_) | (refine W2 (fun hc => ?_) (fun hc => ?_)) | (intro _))
      exact TX.round (i + 1, rightP x) ⟨hlt, by rw [hnx]; rfl⟩ (show l.length - (i + 1) < l.length - i by omega) SubA (fun w' hw => St.inc IncQ hw)
  have hck : decide ((i : Int) < (l.length : Int)) = false := by simp; omega
  obtain rfl : i = l.length := by omega
  rw [List.take_of_length_le (Nat.le_refl _)] at hr
  have k3 : (!(S.2 == r)) = false := by rw [hS2, hr]; simp
  have k4 : (!(C.2 == r)) = false := by rw [hC2, hr]; simp
  repeat' (first | (refine W1 ?_) | (refine W2 (fun hc => ?_) (fun hc => ?_)) | (intro _))
  rename_i B2
  refine TC.loopA (ι := Nat) 0 (fun k r => (91, .int .i64 k) :: r) (fun _ => St w [own 68 3 (some ⟨B2, 0, none⟩) 3 3 [[.slice q1.1 X.1.nodes.length q1.2, .int .i64 X.1.root, .bool X.2], [.slice q2.1 S.1.nodes.length q2.2, .int .i64 S.1.root, .bool S.2], [.slice q3.1 C.1.nodes.length q3.2, .int .i64 C.1.root, .bool C.2]],
      hSee ([[.slice q1.1 X.1.nodes.length q1.2, .int .i64 X.1.root], [.slice q2.1 S.1.nodes.length q2.2, .int .i64 S.1.root], [.slice q3.1 C.1.nodes.length q3.2, .int .i64 C.1.root]].zip [X.1, S.1, C.1])]) (fun k => k ≤ 3) (fun k => 3 - k) KpA SubA (fun w' hw => ?_) (by omega) ?_
  · have g0 : St w (own 68 3 (some ⟨B2, 0, none⟩) 3 3 [[.slice q1.1 X.1.nodes.length q1.2, .int .i64 X.1.root, .bool X.2], [.slice q2.1 S.1.nodes.length q2.2, .int .i64 S.1.root, .bool S.2], [.slice q3.1 C.1.nodes.length q3.2, .int .i64 C.1.root, .bool C.2]] :: _) w' := hw
    have g1 := St.inc (L' := [own 68 3 (some ⟨B2, 0, none⟩) 3 3 [[.slice q1.1 X.1.nodes.length q1.2, .int .i64 X.1.root, .bool X.2], [.slice q2.1 S.1.nodes.length q2.2, .int .i64 S.1.root, .bool S.2], [.slice q3.1 C.1.nodes.length q3.2, .int .i64 C.1.root, .bool C.2]], hNodes (.slice q3.1 C.1.nodes.length q3.2) C.1.nodes, hNodes (.slice q2.1 S.1.nodes.length q2.2) S.1.nodes, hNodes (.slice q1.1 X.1.nodes.length q1.2) X.1.nodes]) IncQ g0
    have g2 := St.inc (L' := [hNodes (.slice q1.1 X.1.nodes.length q1.2) X.1.nodes, hNodes (.slice q2.1 S.1.nodes.length q2.2) S.1.nodes, hNodes (.slice q3.1 C.1.nodes.length q3.2) C.1.nodes, own 68 3 (some ⟨B2, 0, none⟩) 3 3 [[.slice q1.1 X.1.nodes.length q1.2, .int .i64 X.1.root, .bool X.2], [.slice q2.1 S.1.nodes.length q2.2, .int .i64 S.1.root, .bool S.2], [.slice q3.1 C.1.nodes.length q3.2, .int .i64 C.1.root, .bool C.2]]]) IncQ g1
    exact (St.weak (fun S w h => hSee_TR h) (hTR_three' g2)).swap
  intro k hk
  by_cases hk3 : k < 3
  · have hck3 : decide ((k : Int) < 3) = true := by simp; omega
    have hrow : ∃ (m : Tre × Bool) (K : Option Addr) (kc : Nat), [[Value.slice q1.1 X.1.nodes.length q1.2, .int .i64 X.1.root, .bool X.2], [.slice q2.1 S.1.nodes.length q2.2, .int .i64 S.1.root, .bool S.2], [.slice q3.1 C.1.nodes.length q3.2, .int .i64 C.1.root, .bool C.2]][k]? = some [.slice K m.1.nodes.length kc, .int .i64 m.1.root, .bool m.2] ∧
        ([.slice K m.1.nodes.length kc, .int .i64 m.1.root], m.1) ∈ ([[.slice q1.1 X.1.nodes.length q1.2, .int .i64 X.1.root], [.slice q2.1 S.1.nodes.length q2.2, .int .i64 S.1.root], [.slice q3.1 C.1.nodes.length q3.2, .int .i64 C.1.root]] : List (List Value)).zip [X.1, S.1, C.1] ∧ GoodT m := by
      obtain rfl | rfl | rfl : k = 0 ∨ k = 1 ∨ k = 2 := by omega
      · exact ⟨X, q1.1, q1.2, rfl, .head _, gX⟩
      · exact ⟨S, q2.1, q2.2, rfl, .tail _ (.head _), gS⟩
      · exact ⟨C, q3.1, q3.2, rfl, .tail _ (.tail _ (.head _)), gC⟩
    obtain ⟨⟨m, mb⟩, K, kc, hrow, hmem, hwm, hno, hyes⟩ := hrow
    simp only at hrow hmem hwm hno hyes
    generalize hrs : ([[Value.slice q1.1 X.1.nodes.length q1.2, .int .i64 X.1.root, .bool X.2], [.slice q2.1 S.1.nodes.length q2.2, .int .i64 S.1.root, .bool S.2], [.slice q3.1 C.1.nodes.length q3.2, .int .i64 C.1.root, .bool C.2]] : List (List Value)) = RS at *
    generalize hks : ([[.slice q1.1 X.1.nodes.length q1.2, .int .i64 X.1.root], [.slice q2.1 S.1.nodes.length q2.2, .int .i64 S.1.root], [.slice q3.1 C.1.nodes.length q3.2, .int .i64 C.1.root]] : List (List Value)).zip [X.1, S.1, C.1] = KS at *
    have hRm : ∀ {L : List HP} {w' : World}, St w L w' → At L (hSee KS) → RTree (Old w') w' (.agg #[.slice K m.nodes.length kc, .int .i64 m.root]) m := fun h ha => (St.see h ha hmem).tree
    cases mb with
    | false =>
      have hz : decide ((m.nodes.length : Int) > 0) = false := by rw [hno rfl]; rfl
      have hz' : decide (0 < (m.nodes.length : Int)) = false := hz
      repeat' (first | (refine W1 ?_) | (refine W2 (fun hc => ?_) (fun hc => ?_)) | (intro _))
      exact TX.round (k + 1) (by omega) (by omega) SubA (fun w' hw => St.inc IncQ hw)
    | true =>
      obtain ⟨g1, g2, g3, g4⟩ := hyes rfl
      have e1 : (!rightP m) = false := by rw [g1]; rfl
      have e2 : (!normalP m) = false := by rw [g2]; rfl
      have e3 : (!(true && decide (m = m))) = false := by simp
      have cM : ∀ w' v, RTree (Old w') w' v m → Tab w' → Calls Tryd.prog 58 #[v] w' (RetTB w' (m, true)) := fun w' v hr hT => by have h := make_any v m w' hr hwm hT; rw [g4] at h; exact h
      have cK : ∀ w' v, RTree (Old w') w' v m → Tab w' → Calls Tryd.prog 33 #[v] w' (RetT w' m) := fun w' v hr hT => by have h := clean_any v m w' hr hwm hT; rw [g3] at h; exact h
      repeat' (first | (refine W1 ?_) | (refine W2 (fun hc => ?_) (fun hc => ?_)) | (intro _))
      rename_i b14
      refine T.callR rfl rfl (fun w' hw' => cM w' _ (hRm hw' AtA) (Tab.st hT hw')) (fun p _ => ?_)
      repeat' (first | (refine TC.holdR 22 ?_) | (refine W1 ?_) | (refine W2 (fun hc => ?_) (fun hc => ?_)) | (intro _))
      rename_i b15
      refine ⟨?_⟩
      apply TC.seq
      refine TC.lexT [] (.seg [0, 1, 2, 3, 4, 5, 6, 7, 8, 9, 10, 11, 12, 14, 15, 13, 16, 17, 18, 19, 20, 21, 22, 23, 24, 25, 26] .fin) mixed (by kernel_rfl) (TT.seg rfl ?_)
      repeat' (first | ((apply TX.tree)) | ((apply TT.fin)) | (refine W1 ?_) | (refine W2 (fun hc => ?_) (fun hc => ?_)) | (intro _))
      refine TL.kcallV rfl (fun w' hw' => right_any _ m w' (hRm hw' AtA) hwm (Tab.st hT hw')) rfl rfl DropA ?_
      repeat' (first | ((apply TX.tree)) | ((apply TT.fin)) | (refine W1 ?_) | (refine W2 (fun hc => ?_) (fun hc => ?_)) | (intro _))
      refine TL.kcallV rfl (fun w' hw' => enormal_any _ m w' (hRm hw' AtA) hwm (Tab.st hT hw')) rfl rfl DropA ?_
      repeat' (first | ((apply TX.tree)) | ((apply TT.fin)) | (refine W1 ?_) | (refine W2 (fun hc => ?_) (fun hc => ?_)) | (intro _))
      refine TL.kcallR rfl (fun w' hw' => cK w' _ (hRm hw' AtA) (Tab.st hT hw')) rfl rfl DropA (fun p2 _ => ?_)
      repeat' (first | ((apply TX.tree)) | ((apply TT.fin)) | (refine W1 ?_) | (refine W2 (fun hc => ?_) (fun hc => ?_)) | (intro _))
      refine TL.kcallV rfl (fun w' hw' => is5_any _ _ m m true w' (St.get_treeN (A := p2.1) (c := p2.2) hw' AtA) (hRm hw' AtA) hwm hwm) rfl rfl DropA ?_
      repeat' (first | ((apply TX.tree)) | ((apply TT.fin)) | (refine W1 ?_) | (refine W2 (fun hc => ?_) (fun hc => ?_)) | (intro _))
      refine TL.kcallV rfl (fun w' hw' => is5_any _ _ m m true w' (St.get_treeN (A := p.1) (c := p.2) hw' AtA) (hRm hw' AtA) hwm hwm) rfl rfl DropA ?_
      repeat' (first | ((apply TX.tree)) | ((apply TT.fin)) | (refine W1 ?_) | (refine W2 (fun hc => ?_) (fun hc => ?_)) | (intro _))
      exact TX.round (k + 1) (by omega) (by omega) SubA (fun w' hw => St.inc IncQ hw)
  · have hck3 : decide ((k : Int) < 3) = false := by simp; omega
    repeat' (first | (refine W1 ?_) | (refine W2 (fun hc => ?_) (fun hc => ?_)) | (intro _))
    exact TX.ret_tmp rfl rfl (fun w' hw => RetV.eq hw rfl)
end Go.Proofs.YtlhkkngpppcfoaaDoor
