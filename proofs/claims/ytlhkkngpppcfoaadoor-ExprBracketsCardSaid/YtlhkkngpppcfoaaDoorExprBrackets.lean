/-
  The law ExprBrackets, walked: it answers true for every three trees.
-/
import Derived.Test.YtlhkkngpppcfoaaDoorAwake5
set_option linter.all false
namespace Go.Bonsai
open Go Go.Sl Go.RowKit
theorem tot_mid {l : List Tre} (h : ∀ t ∈ l, t.wf ∧ t.nodes.length ≤ 2000) : tot l ≤ 2000 * l.length := by
  induction l with
  | nil => simp [tot]
  | cons t l ih =>
    have h1 := (h t (by simp)).2
    have h2 := ih (fun x hx => h x (by simp [hx]))
    rw [tot_cons, List.length_cons]
    omega
theorem putP_mid {n : Nod} (hn : n.wf) {l : List Tre} (hl : l.length ≤ 3) (h : ∀ t ∈ l, t.wf ∧ t.nodes.length ≤ 2000) : (putP n l).1.wf := by
  have := tot_mid h
  exact putP_wf hn (fun t ht => (h t ht).1) (by unfold bigN; omega)
end Go.Bonsai
namespace Go.Proofs.YtlhkkngpppcfoaaDoor
open Go Go.Sl Go.RowKit Go.Bonsai
set_option linter.unusedVariables false
set_option linter.unusedSimpArgs false

theorem eseq_mid {l : List Tre} {r : Tre × Bool} (he : putP seqN0 l = r) (hl : l.length ≤ 100) (h : ∀ t ∈ l, t.wf ∧ t.nodes.length ≤ 2000) (v : Value) (w : World) (hr : RTrees (Old w) w v l) (hT : Tab w) :
    Calls Tryd.prog 55 #[v] w (RetTB w r) := by
  have h1 := tot_mid h
  rw [← he]
  exact eseq_any v l w hr (by unfold bigN; omega) (fun t ht => (h t ht).1) (by unfold bigN; omega) hT
theorem echo_mid {l : List Tre} {r : Tre × Bool} (he : putP choN0 l = r) (hl : l.length ≤ 100) (h : ∀ t ∈ l, t.wf ∧ t.nodes.length ≤ 2000) (v : Value) (w : World) (hr : RTrees (Old w) w v l) (hT : Tab w) :
    Calls Tryd.prog 57 #[v] w (RetTB w r) := by
  have h1 := tot_mid h
  rw [← he]
  exact echoice_any v l w hr (by unfold bigN; omega) (fun t ht => (h t ht).1) (by unfold bigN; omega) hT
/-- what is put together of three -/
structure Br (n : Nod) (a b c : Tre) (ALL L R : Tre × Bool) : Prop where
  qA : putP n [a, b, c] = ALL
  qL : putP n [a, b] = L
  qR : putP n [b, c] = R
  qX : putP n [L.1, c] = ALL
  qY : putP n [a, R.1] = ALL
  k : (ALL.2 && decide (ALL.1 = ALL.1)) = true
  k2 : ALL.2 = true
  wA : ALL.1.wf
  sL : L.1.wf ∧ L.1.nodes.length ≤ 2000
  sR : R.1.wf ∧ R.1.nodes.length ≤ 2000
theorem br {n : Nod} (hn : n = seqN0 ∨ n = choN0) {a b c : Tre} (ha : rightP a = true) (hb : rightP b = true) (hc : rightP c = true) (sa : a.wf ∧ a.nodes.length ≤ 400) (sb : b.wf ∧ b.nodes.length ≤ 400) (sc : c.wf ∧ c.nodes.length ≤ 400) : ∃ ALL L R, Br n a b c ALL L R := by
  have hw : n.wf := by rcases hn with rfl | rfl; exact seqN0_wf; exact choN0_wf
  have hf : ∀ l : List Tre, allR l = true → (putP n l).2 = true := fun l hl => by rw [putP_is, hl]; rcases hn with rfl | rfl <;> rfl
  have h3 : allR [a, b, c] = true := by simp [allR, ha, hb, hc]
  have i1 := put_inner hn (a := []) (l := [a, b]) (b := [c]) rfl (by simp [allR, ha, hb]) (by simp [allR, hc]) (by simp)
  have i2 := put_inner hn (a := [a]) (l := [b, c]) (b := []) (by simp [allR, ha]) (by simp [allR, hb, hc]) rfl (by simp)
  have l1 := putP_len n [a, b]
  have l2 := putP_len n [b, c]
  simp only [tot, List.map_cons, List.map_nil, List.sum_cons, List.sum_nil] at l1 l2
  refine ⟨putP n [a, b, c], putP n [a, b], putP n [b, c], rfl, rfl, rfl, i1, i2, by rw [hf _ h3]; simp, hf _ h3, ?_, ⟨?_, by omega⟩, ⟨?_, by omega⟩⟩
  · exact putP_mid hw (by simp) (by intro x hx; simp at hx; rcases hx with rfl | rfl | rfl; exact ⟨sa.1, by omega⟩; exact ⟨sb.1, by omega⟩; exact ⟨sc.1, by omega⟩)
  · exact putP_mid hw (by simp) (by intro x hx; simp at hx; rcases hx with rfl | rfl; exact ⟨sa.1, by omega⟩; exact ⟨sb.1, by omega⟩)
  · exact putP_mid hw (by simp) (by intro x hx; simp at hx; rcases hx with rfl | rfl; exact ⟨sb.1, by omega⟩; exact ⟨sc.1, by omega⟩)
set_option maxHeartbeats 8000000 in
theorem exprBrackets_any (v1 v2 v3 : Value) (a b c : Tre) (w : World) (hr1 : RTree (Old w) w v1 a) (hr2 : RTree (Old w) w v2 b) (hr3 : RTree (Old w) w v3 c) (hw1 : a.wf) (hw2 : b.wf) (hw3 : c.wf) (hT : Tab w) :
    Calls Tryd.prog 9 #[v1, v2, v3] w (RetV w (.bool true)) := by
  have h1 := hr1
  have h2 := hr2
  have h3 := hr3
  obtain ⟨nv, rfl, A1, c1, rows1, rfl, hA1, hrows1, hc1⟩ := hr1
  obtain ⟨nv, rfl, A2, c2, rows2, rfl, hA2, hrows2, hc2⟩ := hr2
  obtain ⟨nv, rfl, A3, c3, rows3, rfl, hA3, hrows3, hc3⟩ := hr3
  have hC1 := h1.c
  have hC2 := h2.c
  have hC3 := h3.c
  clear hA1 hrows1 hA2 hrows2 hA3 hrows3
  refine TC.calls (l := [.agg #[.slice A1 a.nodes.length c1, .int .i64 a.root], .agg #[.slice A2 b.nodes.length c2, .int .i64 b.root], .agg #[.slice A3 c.nodes.length c3, .int .i64 c.root]]) Tryd.func9 rfl Tryd.ntmps9 rfl (St.start w) ?_
  repeat' (first | (refine W1 ?_) | (refine W2 (fun hc => ?_) (fun hc => ?_)) | (intro _))
  rename_i b3 b4 b5 B
  refine T.callR rfl rfl (fun w' hw' => large5_any _ [a, b, c] w' (RTrees.of rfl hw' .here (All2.more (St.old_treeC hw' hC1) (All2.more (St.old_treeC hw' hC2) (All2.more (St.old_treeC hw' hC3) .nil)))) (by simp) (by intro x hx; simp at hx; rcases hx with rfl | rfl | rfl <;> assumption)) (fun bb hb => ?_)
  cases bb with
  | true =>
    repeat' (first | (refine W1 ?_) | (refine W2 (fun hc => ?_) (fun hc => ?_)) | (intro _))
    refine T.callV rfl rfl (fun w' hw' => awake5_any w' (Tab.st hT hw')) ?_
    repeat' (first | (refine W1 ?_) | (refine W2 (fun hc => ?_) (fun hc => ?_)) | (intro _))
    exact TX.ret_tmp rfl rfl (fun w' hw => RetV.eq hw rfl)
  | false =>
  have hS : [a, b, c].length + tot [a, b, c] + totK [a, b, c] < 400 := hb rfl
  have sa : a.wf ∧ a.nodes.length ≤ 400 := ⟨hw1, by have := tot_le (l := [a, b, c]) (t := a) (by simp); omega⟩
  have sb : b.wf ∧ b.nodes.length ≤ 400 := ⟨hw2, by have := tot_le (l := [a, b, c]) (t := b) (by simp); omega⟩
  have sc : c.wf ∧ c.nodes.length ≤ 400 := ⟨hw3, by have := tot_le (l := [a, b, c]) (t := c) (by simp); omega⟩
  have ma : a.wf ∧ a.nodes.length ≤ 2000 := ⟨sa.1, by omega⟩
  have mb : b.wf ∧ b.nodes.length ≤ 2000 := ⟨sb.1, by omega⟩
  have mc : c.wf ∧ c.nodes.length ≤ 2000 := ⟨sc.1, by omega⟩
  clear hb hS
  have l2 : ∀ {p : Tre → Prop} {s r : Tre}, p s → p r → ∀ t ∈ [s, r], p t := fun h1 h2 t ht => by simp at ht; rcases ht with rfl | rfl <;> assumption
  have l3 : ∀ {p : Tre → Prop} {s r q : Tre}, p s → p r → p q → ∀ t ∈ [s, r, q], p t := fun h1 h2 h3 t ht => by simp at ht; rcases ht with rfl | rfl | rfl <;> assumption
  repeat' (first | (refine W1 ?_) | (refine W2 (fun hc => ?_) (fun hc => ?_)) | (intro _))
  refine T.callV rfl rfl (fun w' hw' => awake5_any w' (Tab.st hT hw')) ?_
  by_cases hall : rightP a = true ∧ rightP b = true ∧ rightP c = true
  case neg =>
    obtain ⟨ALL, qA⟩ : ∃ x, putP seqN0 [a, b, c] = x := ⟨_, rfl⟩
    have hno : (!ALL.2) = true := by
      rw [← qA, putP_is]
      cases e1 : rightP a <;> cases e2 : rightP b <;> cases e3 : rightP c <;> simp [allR, e1, e2, e3, fitsK_seq]
      exact hall ⟨e1, e2, e3⟩
    repeat' (first | (refine W1 ?_) | (refine W2 (fun hc => ?_) (fun hc => ?_)) | (intro _))
    refine T.callR rfl rfl (fun w' hw' => eseq_mid qA (by simp) (l3 ma mb mc) _ w' (RTrees.of rfl hw' .here (All2.more (St.old_treeC hw' hC1) (All2.more (St.old_treeC hw' hC2) (All2.more (St.old_treeC hw' hC3) .nil)))) (Tab.st hT hw')) (fun q1 _ => ?_)
    repeat' (first | (refine W1 ?_) | (refine W2 (fun hc => ?_) (fun hc => ?_)) | (intro _))
    refine T.callV rfl rfl (fun w' hw' => right_any _ a w' (St.old_tree hw' h1) hw1 (Tab.st hT hw')) ?_
    cases e1 : rightP a with
    | false =>
      repeat' (first | (refine W1 ?_) | (refine W2 (fun hc => ?_) (fun hc => ?_)) | (intro _))
      exact TX.ret_tmp rfl rfl (fun w' hw => RetV.eq hw rfl)
    | true =>
      repeat' (first | (refine W1 ?_) | (refine W2 (fun hc => ?_) (fun hc => ?_)) | (intro _))
      refine T.callV rfl rfl (fun w' hw' => right_any _ b w' (St.old_tree hw' h2) hw2 (Tab.st hT hw')) ?_
      cases e2 : rightP b with
      | false =>
        repeat' (first | (refine W1 ?_) | (refine W2 (fun hc => ?_) (fun hc => ?_)) | (intro _))
        exact TX.ret_tmp rfl rfl (fun w' hw => RetV.eq hw rfl)
      | true =>
        repeat' (first | (refine W1 ?_) | (refine W2 (fun hc => ?_) (fun hc => ?_)) | (intro _))
        refine T.callV rfl rfl (fun w' hw' => right_any _ c w' (St.old_tree hw' h3) hw3 (Tab.st hT hw')) ?_
        cases e3 : rightP c with
        | false =>
          repeat' (first | (refine W1 ?_) | (refine W2 (fun hc => ?_) (fun hc => ?_)) | (intro _))
          exact TX.ret_tmp rfl rfl (fun w' hw => RetV.eq hw rfl)
        | true => exact absurd ⟨e1, e2, e3⟩ hall
  obtain ⟨hra, hrb, hrc⟩ := hall
  obtain ⟨ALL, L, R, s1⟩ := br (.inl rfl) hra hrb hrc sa sb sc
  obtain ⟨EV, L', R', s2⟩ := br (.inr rfl) hra hrb hrc sa sb sc
  have kA := s1.k
  have kE := s2.k
  have kn : (!ALL.2) = false := by rw [s1.k2]; rfl
  have ke : EV.2 = true := s2.k2
  repeat' (first | ((apply T.ev_; exact rfl; apply Ev.loadW; exact rfl; exact AtR; exact rfl)) | (refine W1 ?_) | (refine W2 (fun hc => ?_) (fun hc => ?_)) | (intro _))
  refine T.callR rfl rfl (fun w' hw' => eseq_mid s1.qA (by simp) (l3 ma mb mc) _ w' (RTrees.of rfl hw' .here (All2.more (St.old_treeC hw' hC1) (All2.more (St.old_treeC hw' hC2) (All2.more (St.old_treeC hw' hC3) .nil)))) (Tab.st hT hw')) (fun q1 _ => ?_)
  repeat' (first | ((apply T.ev_; exact rfl; apply Ev.loadW; exact rfl; exact AtR; exact rfl)) | (refine W1 ?_) | (refine W2 (fun hc => ?_) (fun hc => ?_)) | (intro _))
  rename_i b7 Bb7
  refine T.callR rfl rfl (fun w' hw' => eseq_mid s1.qL (by simp) (l2 ma mb) _ w' (RTrees.of rfl hw' .here (All2.more (St.old_treeC hw' hC1) (All2.more (St.old_treeC hw' hC2) .nil))) (Tab.st hT hw')) (fun q2 _ => ?_)
  repeat' (first | ((apply T.ev_; exact rfl; apply Ev.loadW; exact rfl; exact AtR; exact rfl)) | (refine W1 ?_) | (refine W2 (fun hc => ?_) (fun hc => ?_)) | (intro _))
  rename_i b9 Bb9
  refine T.callR rfl rfl (fun w' hw' => eseq_mid s1.qR (by simp) (l2 mb mc) _ w' (RTrees.of rfl hw' .here (All2.more (St.old_treeC hw' hC2) (All2.more (St.old_treeC hw' hC3) .nil))) (Tab.st hT hw')) (fun q3 _ => ?_)
  repeat' (first | ((apply T.ev_; exact rfl; apply Ev.loadW; exact rfl; exact AtR; exact rfl)) | (refine W1 ?_) | (refine W2 (fun hc => ?_) (fun hc => ?_)) | (intro _))
  rename_i b11 Bb11
  refine T.callR rfl rfl (fun w' hw' => eseq_mid s1.qX (by simp) (l2 s1.sL mc) _ w' (RTrees.of rfl hw' .here (All2.more (St.get_treeN (A := q2.1) (c := q2.2) hw' AtR).c (All2.more (St.old_treeC hw' hC3) .nil))) (Tab.st hT hw')) (fun q4 _ => ?_)
  repeat' (first | ((apply T.ev_; exact rfl; apply Ev.loadW; exact rfl; exact AtR; exact rfl)) | (refine W1 ?_) | (refine W2 (fun hc => ?_) (fun hc => ?_)) | (intro _))
  rename_i b13 Bb13
  refine T.callR rfl rfl (fun w' hw' => eseq_mid s1.qY (by simp) (l2 ma s1.sR) _ w' (RTrees.of rfl hw' .here (All2.more (St.old_treeC hw' hC1) (All2.more (St.get_treeN (A := q3.1) (c := q3.2) hw' AtR).c .nil))) (Tab.st hT hw')) (fun q5 _ => ?_)
  repeat' (first | ((apply T.ev_; exact rfl; apply Ev.loadW; exact rfl; exact AtR; exact rfl)) | (refine W1 ?_) | (refine W2 (fun hc => ?_) (fun hc => ?_)) | (intro _))
  rename_i b15
  refine T.callV rfl rfl (fun w' hw' => is5_any _ _ ALL.1 ALL.1 ALL.2 w' (St.get_treeN (A := q4.1) (c := q4.2) hw' AtR) (St.get_treeN (A := q1.1) (c := q1.2) hw' AtR) s1.wA s1.wA) ?_
  have kA' : (!(ALL.2 && decide (ALL.1 = ALL.1))) = false := by rw [kA]; rfl
  repeat' (first | ((apply T.ev_; exact rfl; apply Ev.loadW; exact rfl; exact AtR; exact rfl)) | (refine W1 ?_) | (refine W2 (fun hc => ?_) (fun hc => ?_)) | (intro _))
  refine T.callV rfl rfl (fun w' hw' => is5_any _ _ ALL.1 ALL.1 ALL.2 w' (St.get_treeN (A := q5.1) (c := q5.2) hw' AtR) (St.get_treeN (A := q1.1) (c := q1.2) hw' AtR) s1.wA s1.wA) ?_
  repeat' (first | ((apply T.ev_; exact rfl; apply Ev.loadW; exact rfl; exact AtR; exact rfl)) | ((refine TC.holdR 12 ?_)) | (refine W1 ?_) | (refine W2 (fun hc => ?_) (fun hc => ?_)) | (intro _))
  refine ⟨?_⟩
  refine TC.sub (M' := St w [blk b15 [.slice q5.1 ALL.1.nodes.length q5.2, .int .i64 ALL.1.root] 24, blk b13 [.slice q4.1 ALL.1.nodes.length q4.2, .int .i64 ALL.1.root] 24, blk b11 [.slice q3.1 R.1.nodes.length q3.2, .int .i64 R.1.root] 24, blk b9 [.slice q2.1 L.1.nodes.length q2.2, .int .i64 L.1.root] 24, blk b5 [.slice A3 c.nodes.length c3, .int .i64 c.root] 24, blk b4 [.slice A2 b.nodes.length c2, .int .i64 b.root] 24, blk b3 [.slice A1 a.nodes.length c1, .int .i64 a.root] 24]) (fun w' hw => St.inc IncQ hw) ?_
  repeat' (first | ((apply T.ev_; exact rfl; apply Ev.loadW; exact rfl; exact AtR; exact rfl)) | (refine W1 ?_) | (refine W2 (fun hc => ?_) (fun hc => ?_)) | (intro _))
  refine T.callR rfl rfl (fun w' hw' => echo_mid s2.qA (by simp) (l3 ma mb mc) _ w' (RTrees.of rfl hw' .here (All2.more (St.old_treeC hw' hC1) (All2.more (St.old_treeC hw' hC2) (All2.more (St.old_treeC hw' hC3) .nil)))) (Tab.st hT hw')) (fun r1 _ => ?_)
  repeat' (first | ((apply T.ev_; exact rfl; apply Ev.loadW; exact rfl; exact AtR; exact rfl)) | (refine W1 ?_) | (refine W2 (fun hc => ?_) (fun hc => ?_)) | (intro _))
  rename_i b17 Bb17
  refine T.callR rfl rfl (fun w' hw' => echo_mid s2.qL (by simp) (l2 ma mb) _ w' (RTrees.of rfl hw' .here (All2.more (St.old_treeC hw' hC1) (All2.more (St.old_treeC hw' hC2) .nil))) (Tab.st hT hw')) (fun r2 _ => ?_)
  repeat' (first | ((apply T.ev_; exact rfl; apply Ev.loadW; exact rfl; exact AtR; exact rfl)) | (refine W1 ?_) | (refine W2 (fun hc => ?_) (fun hc => ?_)) | (intro _))
  refine T.callR rfl rfl (fun w' hw' => echo_mid s2.qR (by simp) (l2 mb mc) _ w' (RTrees.of rfl hw' .here (All2.more (St.old_treeC hw' hC2) (All2.more (St.old_treeC hw' hC3) .nil))) (Tab.st hT hw')) (fun r3 _ => ?_)
  repeat' (first | ((apply T.ev_; exact rfl; apply Ev.loadW; exact rfl; exact AtR; exact rfl)) | (refine W1 ?_) | (refine W2 (fun hc => ?_) (fun hc => ?_)) | (intro _))
  refine T.callR rfl rfl (fun w' hw' => echo_mid s2.qX (by simp) (l2 s2.sL mc) _ w' (RTrees.of rfl hw' .here (All2.more (St.get_treeN (A := r2.1) (c := r2.2) hw' AtR).c (All2.more (St.old_treeC hw' hC3) .nil))) (Tab.st hT hw')) (fun r4 _ => ?_)
  repeat' (first | ((apply T.ev_; exact rfl; apply Ev.loadW; exact rfl; exact AtR; exact rfl)) | (refine W1 ?_) | (refine W2 (fun hc => ?_) (fun hc => ?_)) | (intro _))
  refine T.callR rfl rfl (fun w' hw' => echo_mid s2.qY (by simp) (l2 ma s2.sR) _ w' (RTrees.of rfl hw' .here (All2.more (St.old_treeC hw' hC1) (All2.more (St.get_treeN (A := r3.1) (c := r3.2) hw' AtR).c .nil))) (Tab.st hT hw')) (fun r5 _ => ?_)
  repeat' (first | ((apply T.ev_; exact rfl; apply Ev.loadW; exact rfl; exact AtR; exact rfl)) | (refine W1 ?_) | (refine W2 (fun hc => ?_) (fun hc => ?_)) | (intro _))
  refine T.callV rfl rfl (fun w' hw' => is5_any _ _ EV.1 EV.1 EV.2 w' (St.get_treeN (A := r4.1) (c := r4.2) hw' AtR) (St.get_treeN (A := r1.1) (c := r1.2) hw' AtR) s2.wA s2.wA) ?_
  repeat' (first | ((apply T.ev_; exact rfl; apply Ev.loadW; exact rfl; exact AtR; exact rfl)) | (refine W1 ?_) | (refine W2 (fun hc => ?_) (fun hc => ?_)) | (intro _))
  refine T.callV rfl rfl (fun w' hw' => is5_any _ _ EV.1 EV.1 EV.2 w' (St.get_treeN (A := r5.1) (c := r5.2) hw' AtR) (St.get_treeN (A := r1.1) (c := r1.2) hw' AtR) s2.wA s2.wA) ?_
  repeat' (first | ((apply T.ev_; exact rfl; apply Ev.loadW; exact rfl; exact AtR; exact rfl)) | (refine W1 ?_) | (refine W2 (fun hc => ?_) (fun hc => ?_)) | (intro _))
  exact TX.ret_tmp rfl rfl (fun w' hw => RetV.eq hw (congrArg Value.bool kE))
end Go.Proofs.YtlhkkngpppcfoaaDoor
