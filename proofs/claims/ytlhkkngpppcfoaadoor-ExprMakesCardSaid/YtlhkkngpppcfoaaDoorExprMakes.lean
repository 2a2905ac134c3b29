/-
  The law ExprMakes, walked: it answers true for every tree.
-/
import Derived.Test.YtlhkkngpppcfoaaDoorRefNorm
import Derived.Test.YtlhkkngpppcfoaaDoorSpoil5
set_option linter.all false
namespace Go.Bonsai
open Go Go.Sl Go.RowKit
theorem head_size (t : Tre) (h : t.wf) : (headP t).1.wf ∧ (headP t).1.nodes.length ≤ t.nodes.length := by
  have h1 := partsP_wf h
  have h2 := partsP_tot t
  unfold headP
  split
  · exact ⟨Tre.zero_wf, Nat.zero_le _⟩
  · rename_i x l hpl
    rw [hpl] at h1 h2
    have := tot_le (l := x :: l) (t := x) (by simp)
    exact ⟨h1 x (by simp), by show x.nodes.length ≤ _; omega⟩
theorem tail_size (t : Tre) (h : t.wf) : (tailP t).1.wf ∧ (tailP t).1.nodes.length ≤ t.nodes.length + 1 := by
  have h1 := partsP_wf h
  have h2 := partsP_tot t
  have hl := h.len
  unfold tailP
  split
  · exact ⟨Tre.zero_wf, Nat.zero_le _⟩
  · rename_i x l hpl
    rw [hpl] at h1 h2
    rw [tot_cons] at h2
    have h3 := putP_len seqN0 l
    have h4 := putP_len seqN0 (x :: l)
    by_cases h0 : x.nodes.length = 0
    · have h5 : x.wf := h1 x (by simp)
      have h6 : tot l ≤ t.nodes.length := by omega
      cases hra : allR l with
      | false => rw [putP_no2 hra]; exact ⟨Tre.zero_wf, Nat.zero_le _⟩
      | true =>
        exfalso
        have hp := hpl
        unfold partsP at hp
        split at hp
        · have hq := (trees_right (Fo.fb_parts (Fo.fb_norm (foT_fb (by assumption)).1)).1 (Fo.fb_parts (Fo.fb_norm (foT_fb (by assumption)).1)).2).1
          rw [hp] at hq
          have h7 := (rightP_spec (hq x (by simp))).root
          omega
        · cases hp
    · exact ⟨putP_wf seqN0_wf (fun y hy => h1 y (by simp [hy])) (by omega), by omega⟩
theorem hTR_three {w0 w : World} {L : List HP} {A1 A2 A3 : Option Addr} {c1 c2 c3 : Nat} {t1 t2 t3 : Tre} (h : St w0 (hNodes (.slice A1 t1.nodes.length c1) t1.nodes :: hNodes (.slice A2 t2.nodes.length c2) t2.nodes :: hNodes (.slice A3 t3.nodes.length c3) t3.nodes :: L) w) :
    St w0 (hTR [[.slice A1 t1.nodes.length c1, .int .i64 t1.root], [.slice A2 t2.nodes.length c2, .int .i64 t2.root], [.slice A3 t3.nodes.length c3, .int .i64 t3.root]] [t1, t2, t3] :: L) w := by
  have h1 := St.weak (H' := hTR [[.slice A1 t1.nodes.length c1, .int .i64 t1.root]] [t1]) (fun S w h => hTR_one h) h
  have h2 := St.joinX (K := hTR ([[.slice A1 t1.nodes.length c1, .int .i64 t1.root]] ++ [[.slice A2 t2.nodes.length c2, .int .i64 t2.root]]) ([t1] ++ [t2])) (fun S S' w h h' hd => hTR_snoc h h' hd) h1.swap
  have h3 := St.joinX (K := hTR (([[.slice A1 t1.nodes.length c1, .int .i64 t1.root]] ++ [[.slice A2 t2.nodes.length c2, .int .i64 t2.root]]) ++ [[.slice A3 t3.nodes.length c3, .int .i64 t3.root]]) (([t1] ++ [t2]) ++ [t3])) (fun S S' w h h' hd => hTR_snoc h h' hd) h2.swap
  exact h3
end Go.Bonsai
namespace Go.Proofs.YtlhkkngpppcfoaaDoor
open Go Go.Sl Go.RowKit Go.Bonsai
set_option linter.unusedVariables false
set_option linter.unusedSimpArgs false

set_option maxHeartbeats 8000000 in
theorem exprMakes_any (v1 : Value) (t : Tre) (w : World) (hr1 : RTree (Old w) w v1 t) (hw1 : t.wf) (hT : Tab w) :
    Calls Tryd.prog 13 #[v1] w (RetV w (.bool true)) := by
  have h1 := hr1
  obtain ⟨nv, rfl, A1, c1, rows1, rfl, hA1, hrows1, hc1⟩ := hr1
  have hC1 := h1.c
  clear hA1 hrows1
  refine TC.calls (l := [.agg #[.slice A1 t.nodes.length c1, .int .i64 t.root]]) Tryd.func13 rfl Tryd.ntmps13 rfl (St.start w) ?_
  repeat' (first | (refine W1 ?_) | (refine W2 (fun hc => ?_) (fun hc => ?_)) | (intro _))
  rename_i b1 B
  refine T.callR rfl rfl (fun w' hw' => large5_any _ [t] w' (RTrees.old1b hw' AtA hC1) (by simp) (by intro x hx; simp at hx; subst hx; exact hw1)) (fun bb hb => ?_)
  cases bb with
  | true =>
    repeat' (first | (refine W1 ?_) | (refine W2 (fun hc => ?_) (fun hc => ?_)) | (intro _))
    refine T.callV rfl rfl (fun w' hw' => awake5_any w' (Tab.st hT hw')) ?_
    repeat' (first | (refine W1 ?_) | (refine W2 (fun hc => ?_) (fun hc => ?_)) | (intro _))
    exact TX.ret_tmp rfl rfl (fun w' hw => RetV.eq hw rfl)
  | false =>
  have hS : [t].length + tot [t] + totK [t] < 400 := hb rfl
  have hlt : t.nodes.length < 400 := by have := tot_le (l := [t]) (t := t) (by simp); omega
  have hkt : (allKids t.nodes).length ≤ bigL := by have := totK_le (l := [t]) (t := t) (by simp); unfold bigL; omega
  clear hb hS
  have hwX := makeP_wf hw1
  have hwP := partsP_wf hw1
  have hwW := waysP_wf hw1
  obtain ⟨hp1, hp2⟩ := partsP_tot t
  obtain ⟨hq1, hq2⟩ := waysP_tot t
  have hwH := (head_size t hw1).1
  have hwS := (tail_size t hw1).1
  have cX : ∀ w' v, RTree (Old w') w' v t → Tab w' → Calls Tryd.prog 58 #[v] w' (RetTB w' (makeP t)) := fun w' v hr hT => make_any v t w' hr hw1 hT
  have cH : ∀ w' v, RTree (Old w') w' v t → Tab w' → Calls Tryd.prog 74 #[v] w' (RetTB w' (headP t)) := fun w' v hr hT => ehead_any v t w' hr hw1 hT
  have cS : ∀ w' v, RTree (Old w') w' v t → Tab w' → Calls Tryd.prog 75 #[v] w' (RetTB w' (tailP t)) := fun w' v hr hT => etail_any v t w' hr hw1 (by unfold bigN; omega) hT
  have cP : ∀ w' v, RTree (Old w') w' v t → Tab w' → Calls Tryd.prog 59 #[v] w' (RetTs w' (partsP t)) := fun w' v hr hT => eparts_any v t w' hr hw1 hT
  have cW : ∀ w' v, RTree (Old w') w' v t → Tab w' → Calls Tryd.prog 60 #[v] w' (RetTs w' (waysP t)) := fun w' v hr hT => ways_any v t w' hr hw1 hT
  have rX : ∀ w' v, RTree (Old w') w' v t → Calls Tryd.prog 77 #[v] w' (RetTB w' (makeP t)) := fun w' v hr => rmake_any (t.nodes.length + 1) t (by omega) hw1 (by omega) hkt v w' hr
  have rH : ∀ w' v, RTree (Old w') w' v t → Calls Tryd.prog 78 #[v] w' (RetSeeB w' (headP t)) := fun w' v hr => rhead_any v t w' hr hw1 (by omega) hkt
  have rS : ∀ w' v, RTree (Old w') w' v t → Calls Tryd.prog 79 #[v] w' (RetTB w' (tailP t)) := fun w' v hr => rtail_any v t w' hr hw1 (by omega) hkt
  have rP : ∀ w' v, RTree (Old w') w' v t → Calls Tryd.prog 80 #[v] w' (RetSee w' (partsP t)) := fun w' v hr => rparts_any v t w' hr hw1 (by omega) hkt
  have rW : ∀ w' v, RTree (Old w') w' v t → Calls Tryd.prog 81 #[v] w' (RetSee w' (waysP t)) := fun w' v hr => rways_any v t w' hr hw1 (by omega) hkt
  generalize makeP t = X at *
  generalize headP t = H at *
  generalize tailP t = S at *
  generalize partsP t = P at *
  generalize waysP t = WS at *
  have k1 : (!(X.2 == X.2)) = false := by simp
  have k2 : (!(H.2 == H.2)) = false := by simp
  have k3 : (!(S.2 == S.2)) = false := by simp
  have k4 : (!decide ([X.1, H.1, S.1] = [X.1, H.1, S.1])) = false := by simp
  have k5 : (!decide (P = P)) = false := by simp
  have k6 : (!decide (WS = WS)) = false := by simp
  have w3 : ∀ y ∈ [X.1, H.1, S.1], y.wf := by intro y hy; simp at hy; rcases hy with rfl | rfl | rfl <;> assumption
  repeat' (first | (refine W1 ?_) | (refine W2 (fun hc => ?_) (fun hc => ?_)) | (intro _))
  refine T.callR rfl rfl (fun w' hw' => own5_any _ t w' (St.old_tree hw' h1) hw1) (fun p _ => ?_)
  repeat' (first | (refine W1 ?_) | (refine W2 (fun hc => ?_) (fun hc => ?_)) | (intro _))
  rename_i b3
  refine TC.loopA (ι := Nat) 0 (fun k r => (4, .int .i64 k) :: r) (fun _ => St w [blk b3 [.slice p.1 t.nodes.length p.2, .int .i64 t.root] 24, hNodes (.slice p.1 t.nodes.length p.2) t.nodes, blk b1 [.slice A1 t.nodes.length c1, .int .i64 t.root] 24]) (fun k => k ≤ 2) (fun k => 2 - k) KpA SubA (fun w' hw => St.inc IncQ hw) (by omega) ?_
  intro k hk
  by_cases hk2 : k < 2
  · have hck2 : decide ((k : Int) < 2) = true := by simp; omega
    repeat' (first | ((apply T.ev_; exact rfl; apply Ev.loadW; exact rfl; exact AtR; exact rfl)) | (refine W1 ?_) | (refine W2 (fun hc => ?_) (fun hc => ?_)) | (intro _))
    refine T.callR rfl rfl (fun w' hw' => cX w' _ (St.get_treeN (A := p.1) (c := p.2) hw' AtR) (Tab.st hT hw')) (fun q1 _ => ?_)
    repeat' (first | ((apply T.ev_; exact rfl; apply Ev.loadW; exact rfl; exact AtR; exact rfl)) | (refine W1 ?_) | (refine W2 (fun hc => ?_) (fun hc => ?_)) | (intro _))
    rename_i b5
    refine T.callR rfl rfl (fun w' hw' => rX w' _ (St.old_tree hw' h1)) (fun r1 _ => ?_)
    repeat' (first | ((apply T.ev_; exact rfl; apply Ev.loadW; exact rfl; exact AtR; exact rfl)) | ((refine TC.holdR 9 ?_)) | (refine W1 ?_) | (refine W2 (fun hc => ?_) (fun hc => ?_)) | (intro _))
    rename_i b7
    refine ⟨?_⟩
    apply TC.seq
    refine TC.lexT [] (.seg [0, 2, 1, 3, 4, 5] .fin) mixed (by kernel_rfl) (TT.seg rfl ?_)
    repeat' (first | ((apply TX.tree)) | ((apply TT.fin)) | (refine W1 ?_) | (refine W2 (fun hc => ?_) (fun hc => ?_)) | (intro _))
    refine TL.kcallR rfl (fun w' hw' => cP w' _ (St.get_treeN (A := p.1) (c := p.2) hw' AtR) (Tab.st hT hw')) rfl rfl DropA (fun q2 _ => ?_)
    repeat' (first | ((apply TX.tree)) | ((apply TT.fin)) | (refine W1 ?_) | (refine W2 (fun hc => ?_) (fun hc => ?_)) | (intro _))
    refine TL.kcallR rfl (fun w' hw' => cW w' _ (St.get_treeN (A := p.1) (c := p.2) hw' AtR) (Tab.st hT hw')) rfl rfl DropA (fun q3 _ => ?_)
    repeat' (first | ((apply TX.tree)) | ((apply TT.fin)) | ((apply T.ev_; exact rfl; apply Ev.loadW; exact rfl; exact AtR; exact rfl)) | (refine W1 ?_) | (refine W2 (fun hc => ?_) (fun hc => ?_)) | (intro _))
    refine T.callR rfl rfl (fun w' hw' => cH w' _ (St.get_treeN (A := p.1) (c := p.2) hw' AtR) (Tab.st hT hw')) (fun q4 _ => ?_)
    repeat' (first | ((apply T.ev_; exact rfl; apply Ev.loadW; exact rfl; exact AtR; exact rfl)) | (refine W1 ?_) | (refine W2 (fun hc => ?_) (fun hc => ?_)) | (intro _))
    rename_i b11
    refine T.callR rfl rfl (fun w' hw' => rH w' _ (St.old_tree hw' h1)) (fun r4 _ => ?_)
    repeat' (first | ((apply T.ev_; exact rfl; apply Ev.loadW; exact rfl; exact AtR; exact rfl)) | (refine W1 ?_) | (refine W2 (fun hc => ?_) (fun hc => ?_)) | (intro _))
    rename_i b13
    refine T.callR rfl rfl (fun w' hw' => cS w' _ (St.get_treeN (A := p.1) (c := p.2) hw' AtR) (Tab.st hT hw')) (fun q5 _ => ?_)
    repeat' (first | ((apply T.ev_; exact rfl; apply Ev.loadW; exact rfl; exact AtR; exact rfl)) | (refine W1 ?_) | (refine W2 (fun hc => ?_) (fun hc => ?_)) | (intro _))
    rename_i b15
    refine T.callR rfl rfl (fun w' hw' => rS w' _ (St.old_tree hw' h1)) (fun r5 _ => ?_)
    repeat' (first | ((apply T.ev_; exact rfl; apply Ev.loadW; exact rfl; exact AtR; exact rfl)) | (refine W1 ?_) | (refine W2 (fun hc => ?_) (fun hc => ?_)) | (intro _))
    rename_i b17 B66 B70
    refine T.callV rfl rfl (fun w' hw' => exacts_any _ _ [X.1, H.1, S.1] [X.1, H.1, S.1] w' (RTrees.of rfl hw' (.there .here) (All2.more (St.get_treeN (A := q1.1) (c := q1.2) (t := X.1) hw' AtR).c (All2.more (St.get_treeN (A := q4.1) (c := q4.2) (t := H.1) hw' AtR).c (All2.more (St.get_treeN (A := q5.1) (c := q5.2) (t := S.1) hw' AtR).c .nil)))) (RTrees.of rfl hw' .here (All2.more (St.get_treeN (A := r1.1) (c := r1.2) (t := X.1) hw' AtR).c (All2.more (St.see hw' (K := [([.slice r4.1 H.1.nodes.length r4.2, .int .i64 H.1.root], H.1)]) AtR (List.mem_singleton.2 rfl)) (All2.more (St.get_treeN (A := r5.1) (c := r5.2) (t := S.1) hw' AtR).c .nil)))) (by unfold bigN; simp) (by unfold bigN; simp) w3 w3) ?_
    repeat' (first | ((apply T.ev_; exact rfl; apply Ev.loadW; exact rfl; exact AtR; exact rfl)) | (refine W1 ?_) | (refine W2 (fun hc => ?_) (fun hc => ?_)) | (intro _))
    refine T.callR rfl rfl (fun w' hw' => rP w' _ (St.old_tree hw' h1)) (fun r2 _ => ?_)
    repeat' (first | ((apply T.ev_; exact rfl; apply Ev.loadW; exact rfl; exact AtR; exact rfl)) | (refine W1 ?_) | (refine W2 (fun hc => ?_) (fun hc => ?_)) | (intro _))
    refine T.callV rfl rfl (fun w' hw' => exacts_any _ _ P P w' (hTrees_on (hw'.at_all (H := hTrees (.slice q2.1 P.length q2.2) P) AtR)) (RTrees.see (e := r2.2.1) (A := r2.1.1) (c := r2.1.2) (rows := r2.2.2) (K := r2.2.2.zip P) rfl hw' AtR AtR (fun _ h => h)) (by unfold bigN; omega) (by unfold bigN; omega) hwP hwP) ?_
    repeat' (first | ((apply T.ev_; exact rfl; apply Ev.loadW; exact rfl; exact AtR; exact rfl)) | (refine W1 ?_) | (refine W2 (fun hc => ?_) (fun hc => ?_)) | (intro _))
    refine T.callR rfl rfl (fun w' hw' => rW w' _ (St.old_tree hw' h1)) (fun r3 _ => ?_)
    repeat' (first | ((apply T.ev_; exact rfl; apply Ev.loadW; exact rfl; exact AtR; exact rfl)) | (refine W1 ?_) | (refine W2 (fun hc => ?_) (fun hc => ?_)) | (intro _))
    refine T.callV rfl rfl (fun w' hw' => exacts_any _ _ WS WS w' (hTrees_on (hw'.at_all (H := hTrees (.slice q3.1 WS.length q3.2) WS) AtR)) (RTrees.see (e := r3.2.1) (A := r3.1.1) (c := r3.1.2) (rows := r3.2.2) (K := r3.2.2.zip WS) rfl hw' AtR AtR (fun _ h => h)) (by unfold bigN; omega) (by unfold bigN; omega) hwW hwW) ?_
    repeat' (first | ((apply T.ev_; exact rfl; apply Ev.loadW; exact rfl; exact AtR; exact rfl)) | ((refine TC.holdR 16 ?_)) | (refine W1 ?_) | (refine W2 (fun hc => ?_) (fun hc => ?_)) | (intro _))
    refine ⟨?_⟩
    refine TC.sub (M' := St w [blk b15 [.slice q5.1 S.1.nodes.length q5.2, .int .i64 S.1.root] 24, hNodes (.slice q5.1 S.1.nodes.length q5.2) S.1.nodes, blk b11 [.slice q4.1 H.1.nodes.length q4.2, .int .i64 H.1.root] 24, hNodes (.slice q4.1 H.1.nodes.length q4.2) H.1.nodes, hTrees (.slice q3.1 WS.length q3.2) WS, hTrees (.slice q2.1 P.length q2.2) P, blk b5 [.slice q1.1 X.1.nodes.length q1.2, .int .i64 X.1.root] 24, hNodes (.slice q1.1 X.1.nodes.length q1.2) X.1.nodes, blk b3 [.slice p.1 t.nodes.length p.2, .int .i64 t.root] 24, hNodes (.slice p.1 t.nodes.length p.2) t.nodes, blk b1 [.slice A1 t.nodes.length c1, .int .i64 t.root] 24]) (fun w' hw => St.inc IncQ hw) ?_
    repeat' (first | ((apply T.ev_; exact rfl; apply Ev.loadW; exact rfl; exact AtR; exact rfl)) | (refine W1 ?_) | (refine W2 (fun hc => ?_) (fun hc => ?_)) | (intro _))
    rename_i B105
    refine T.callM (val := fun _ : Unit => .tuple #[]) (LL := fun _ => [hTrees (.slice q3.1 WS.length q3.2) WS, hTrees (.slice q2.1 P.length q2.2) P, blk b3 [.slice p.1 t.nodes.length p.2, .int .i64 t.root] 24, hNodes (.slice p.1 t.nodes.length p.2) t.nodes, blk b1 [.slice A1 t.nodes.length c1, .int .i64 t.root] 24]) rfl rfl (fun w' hw' => ?_) (fun _ => ?_)
    · have g1 := St.inc (L' := [hNodes (.slice q1.1 X.1.nodes.length q1.2) X.1.nodes, hNodes (.slice q4.1 H.1.nodes.length q4.2) H.1.nodes, hNodes (.slice q5.1 S.1.nodes.length q5.2) S.1.nodes, own 24 2 (some ⟨B105, 0, none⟩) 3 3 [[.slice q1.1 X.1.nodes.length q1.2, .int .i64 X.1.root], [.slice q4.1 H.1.nodes.length q4.2, .int .i64 H.1.root], [.slice q5.1 S.1.nodes.length q5.2, .int .i64 S.1.root]], hTrees (.slice q3.1 WS.length q3.2) WS, hTrees (.slice q2.1 P.length q2.2) P, blk b3 [.slice p.1 t.nodes.length p.2, .int .i64 t.root] 24, hNodes (.slice p.1 t.nodes.length p.2) t.nodes, blk b1 [.slice A1 t.nodes.length c1, .int .i64 t.root] 24]) IncQ hw'
      exact spoil5_any (some ⟨B105, 0, none⟩) 3 24 [[.slice q1.1 X.1.nodes.length q1.2, .int .i64 X.1.root], [.slice q4.1 H.1.nodes.length q4.2, .int .i64 H.1.root], [.slice q5.1 S.1.nodes.length q5.2, .int .i64 S.1.root]] [X.1, H.1, S.1] w' (by simp) w3 (hTR_three g1).swap
    repeat' (first | ((apply T.ev_; exact rfl; apply Ev.loadW; exact rfl; exact AtR; exact rfl)) | (refine W1 ?_) | (refine W2 (fun hc => ?_) (fun hc => ?_)) | (intro _))
    refine T.ex (fun w hw => St.openTO (A := q2.1) (c := q2.2) (ts := P) DelA hw) (fun y2 => ?_)
    refine T.callM (val := fun _ : Unit => .tuple #[]) (LL := fun _ => [hTrees (.slice q3.1 WS.length q3.2) WS, blk b3 [.slice p.1 t.nodes.length p.2, .int .i64 t.root] 24, hNodes (.slice p.1 t.nodes.length p.2) t.nodes, blk b1 [.slice A1 t.nodes.length c1, .int .i64 t.root] 24]) rfl rfl (fun w' hw' => spoil5_any q2.1 q2.2 y2.1 y2.2 P w' (by omega) hwP (St.inc IncQ hw')) (fun _ => ?_)
    repeat' (first | ((apply T.ev_; exact rfl; apply Ev.loadW; exact rfl; exact AtR; exact rfl)) | (refine W1 ?_) | (refine W2 (fun hc => ?_) (fun hc => ?_)) | (intro _))
    refine T.ex (fun w hw => St.openTO (A := q3.1) (c := q3.2) (ts := WS) DelA hw) (fun y3 => ?_)
    refine T.callM (val := fun _ : Unit => .tuple #[]) (LL := fun _ => [blk b3 [.slice p.1 t.nodes.length p.2, .int .i64 t.root] 24, hNodes (.slice p.1 t.nodes.length p.2) t.nodes, blk b1 [.slice A1 t.nodes.length c1, .int .i64 t.root] 24]) rfl rfl (fun w' hw' => spoil5_any q3.1 q3.2 y3.1 y3.2 WS w' (by omega) hwW (St.inc IncQ hw')) (fun _ => ?_)
    repeat' (first | ((apply T.ev_; exact rfl; apply Ev.loadW; exact rfl; exact AtR; exact rfl)) | (refine W1 ?_) | (refine W2 (fun hc => ?_) (fun hc => ?_)) | (intro _))
    exact TX.round (k + 1) (by omega) (by omega) SubA (fun w' hw => St.inc IncQ hw)
  · have hck2 : decide ((k : Int) < 2) = false := by simp; omega
    have k7 : (normalP t == normalP t) = true := by simp
    have k8 : decide (t = t) = true := by simp
    repeat' (first | (refine TC.holdR 19 ?_) | (refine W1 ?_) | (refine W2 (fun hc => ?_) (fun hc => ?_)) | (intro _))
    refine ⟨?_⟩
    apply TC.seq
    refine TC.lexT [] (.seg [0, 2, 1, 3, 4, 5, 6, 7, 8, 9, 10, 11, 12, 13] .fin) mixed (by kernel_rfl) (TT.seg rfl ?_)
    repeat' (first | ((apply TX.tree)) | ((apply TT.fin)) | (refine W1 ?_) | (refine W2 (fun hc => ?_) (fun hc => ?_)) | (intro _))
    refine TL.kcallV rfl (fun w' hw' => enormal_any _ t w' (St.get_treeN (A := p.1) (c := p.2) hw' AtR) hw1 (Tab.st hT hw')) rfl rfl DropA ?_
    repeat' (first | ((apply TX.tree)) | ((apply TT.fin)) | (refine W1 ?_) | (refine W2 (fun hc => ?_) (fun hc => ?_)) | (intro _))
    refine TL.kcallV rfl (fun w' hw' => rnormal_any _ t w' (St.old_tree hw' h1) hw1 hkt) rfl rfl DropA ?_
    repeat' (first | ((apply TX.tree)) | ((apply TT.fin)) | (refine W1 ?_) | (refine W2 (fun hc => ?_) (fun hc => ?_)) | (intro _))
    refine TL.kcallV rfl (fun w' hw' => exact_any _ _ t t w' (St.get_treeN (A := p.1) (c := p.2) hw' AtR) (St.old_tree hw' h1) hw1 hw1) rfl rfl DropA ?_
    repeat' (first | ((apply TX.tree)) | ((apply TT.fin)) | (refine W1 ?_) | (refine W2 (fun hc => ?_) (fun hc => ?_)) | (intro _))
    refine TL.kcallV rfl (fun w' hw' => awake5_any w' (Tab.st hT hw')) rfl rfl DropA ?_
    repeat' (first | ((apply TX.tree)) | ((apply TT.fin)) | (refine W1 ?_) | (refine W2 (fun hc => ?_) (fun hc => ?_)) | (intro _))
    exact TX.ret_tmp rfl rfl (fun w' hw => RetV.eq hw rfl)
end Go.Proofs.YtlhkkngpppcfoaaDoor
