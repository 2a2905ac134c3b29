/-
  The closed law ExprNames, walked: it answers true.
-/
import Derived.Test.YtlhkkngpppcfoaaDoorExprNamesA
set_option linter.all false
namespace Go.Proofs.YtlhkkngpppcfoaaDoor
open Go Go.Sl Go.RowKit Go.Bonsai
set_option linter.unusedVariables false
set_option linter.unusedSimpArgs false

set_option maxHeartbeats 16000000 in
set_option maxRecDepth 20000 in
theorem exprNames_any (w : World) (hT : Tab w) : Calls Tryd.prog 14 #[] w (RetV w (.bool true)) := by
  refine TC.calls (l := []) Tryd.func14 rfl Tryd.ntmps14 rfl (St.start w) ?_
  obtain ⟨em, a, b, x, y, s1, c1, s2, c2, s3, deep, c3, s4, want, c4, c5, ab, E1, E2, E3, E4, E5, E6, E7, E8, E9, Ea, Eb, Ec, Ed, Ee, Z, hN, ha, hb, hx, hy, he⟩ := nm_ex
  have ta : ∀ w', Calls Tryd.prog 84 #[.string ⟨#[97]⟩] w' (RetT w' a) := fun w' => by rw [ha]; exact text5_any ⟨#[97]⟩ w'
  have tb : ∀ w', Calls Tryd.prog 84 #[.string ⟨#[98]⟩] w' (RetT w' b) := fun w' => by rw [hb]; exact text5_any ⟨#[98]⟩ w'
  have tx_ : ∀ w', Calls Tryd.prog 27 #[.string ⟨#[120]⟩] w' (RetT w' x) := fun w' => by rw [hx]; exact tree_rule ⟨#[120]⟩ w'
  have ty_ : ∀ w', Calls Tryd.prog 27 #[.string ⟨#[121]⟩] w' (RetT w' y) := fun w' => by rw [hy]; exact tree_rule ⟨#[121]⟩ w'
  have te : ∀ w', Calls Tryd.prog 23 #[] w' (RetT w' em) := fun w' => by rw [he]; exact tree_empty w'
  clear ha hb hx hy he
  have hN0 := hN
  obtain ⟨d1, d2, d3, d4, d5, d6, d7, d8, d9, da, db, dc, q1, q2, q3, q4, q5, q6, q7, q8, q9, qa, qb, qc, qd, qe, qz, qt, ⟨f1, f2, f3, f4, f5, f6, f7, f8, f9, fa, fb, fc, fd, fe⟩, hz, n1, n2, n3, n4, n5, n6, n7, n8, n9, na, nb, nc, nd, hwf⟩ := hN
  have w_em := hwf em (by simp)
  have w_a := hwf a (by simp)
  have w_b := hwf b (by simp)
  have w_x := hwf x (by simp)
  have w_y := hwf y (by simp)
  have w_s1 := hwf s1 (by simp)
  have w_c1 := hwf c1 (by simp)
  have w_s2 := hwf s2 (by simp)
  have w_c2 := hwf c2 (by simp)
  have w_s3 := hwf s3 (by simp)
  have w_dp := hwf deep (by simp)
  have w_c3 := hwf c3 (by simp)
  have w_s4 := hwf s4 (by simp)
  have w_wt := hwf want (by simp)
  have w_c4 := hwf c4 (by simp)
  have w_c5 := hwf c5 (by simp)
  have w_ab := hwf ab (by simp)
  have w_bd := hwf badS (by simp)
  have w_tn := hwf turnT (by simp)
  have w_ze := hwf Tre.zero (by simp)
  clear hwf
  have l1 : ∀ {p : Tre → Prop} {s : Tre}, p s → ∀ t ∈ [s], p t := fun h t ht => by simp at ht; subst ht; exact h
  have l2 : ∀ {p : Tre → Prop} {s r : Tre}, p s → p r → ∀ t ∈ [s, r], p t := fun h1 h2 t ht => by simp at ht; rcases ht with rfl | rfl <;> assumption
  have l3 : ∀ {p : Tre → Prop} {s r q : Tre}, p s → p r → p q → ∀ t ∈ [s, r, q], p t := fun h1 h2 h3 t ht => by simp at ht; rcases ht with rfl | rfl | rfl <;> assumption
  subst hz
  have hbl : badS.nodes.length < bigN := by decide +kernel
  have m1 : ∀ w' v, RTree (Old w') w' v badS → Tab w' → Calls Tryd.prog 58 #[v] w' (RetTB w' E1) := fun w' v hr hT => by rw [← q1]; exact make_any v _ w' hr w_bd.1 hT
  have m2 : ∀ w' v, RTrees (Old w') w' v [x, badS] → Tab w' → Calls Tryd.prog 55 #[v] w' (RetTB w' E2) := fun w' v hr hT => put_sm (args := fun v => #[v]) q2 (by simp) (l2 w_x w_bd) (fun v w h1 h2 h3 h4 h5 => eseq_any v _ w h1 h2 h3 h4 h5) v w' hr hT
  have m3 : ∀ w' v, RTrees (Old w') w' v [badS] → Tab w' → Calls Tryd.prog 57 #[v] w' (RetTB w' E3) := fun w' v hr hT => put_sm (args := fun v => #[v]) q3 (by simp) (l1 w_bd) (fun v w h1 h2 h3 h4 h5 => echoice_any v _ w h1 h2 h3 h4 h5) v w' hr hT
  have m4 : ∀ w' v, RTree (Old w') w' v badS → Tab w' → Calls Tryd.prog 66 #[v, .int .i64 0, .int .i64 1] w' (RetTB w' E4) := fun w' v hr hT => by rw [← q4]; exact erep_any v _ 0 1 (by unfold I64; omega) (by unfold I64; omega) w' hr w_bd.1 (by have := w_bd.2; unfold bigN; omega) hT
  have m5 : ∀ w' v, RTree (Old w') w' v Tre.zero → Tab w' → Calls Tryd.prog 68 #[v] w' (RetTB w' E5) := fun w' v hr hT => by rw [← q5]; exact eand_any v _ w' hr w_ze.1 (by have := w_ze.2; unfold bigN; omega) hT
  have m6 : ∀ w' v, RTree (Old w') w' v badS → Tab w' → Calls Tryd.prog 70 #[v] w' (RetTB w' E6) := fun w' v hr hT => by rw [← q6]; exact enot_any v _ w' hr w_bd.1 (by have := w_bd.2; unfold bigN; omega) hT
  have m7 : ∀ w' v, RTree (Old w') w' v badS → Tab w' → Calls Tryd.prog 72 #[.string ⟨#[110]⟩, v] w' (RetTB w' E7) := fun w' v hr hT => by rw [← q7]; exact ecap_any v _ _ (capN_wf5 (by decide)) w' hr w_bd.1 (by have := w_bd.2; unfold bigN; omega) hT
  have m8 : ∀ w' v, RTree (Old w') w' v x → Tab w' → Calls Tryd.prog 72 #[.string ⟨#[49, 110]⟩, v] w' (RetTB w' E8) := fun w' v hr hT => by rw [← q8]; exact ecap_any v _ _ (capN_wf5 (by decide)) w' hr w_x.1 (by have := w_x.2; unfold bigN; omega) hT
  have m9 : ∀ w' v, RTree (Old w') w' v badS → Tab w' → Calls Tryd.prog 74 #[v] w' (RetTB w' E9) := fun w' v hr hT => by rw [← q9]; exact ehead_any v _ w' hr w_bd.1 hT
  have ma : ∀ w' v, RTree (Old w') w' v badS → Tab w' → Calls Tryd.prog 75 #[v] w' (RetTB w' Ea) := fun w' v hr hT => by rw [← qa]; exact etail_any v _ w' hr w_bd.1 hbl hT
  have mb : ∀ w' v, RTree (Old w') w' v em → Tab w' → Calls Tryd.prog 74 #[v] w' (RetTB w' Eb) := fun w' v hr hT => by rw [← qb]; exact ehead_any v _ w' hr w_em.1 hT
  have mc : ∀ w' v, RTree (Old w') w' v em → Tab w' → Calls Tryd.prog 75 #[v] w' (RetTB w' Ec) := fun w' v hr hT => by rw [← qc]; exact etail_any v _ w' hr w_em.1 (by have := w_em.2; unfold bigN; omega) hT
  have md : ∀ w' v, RTree (Old w') w' v x → Tab w' → Calls Tryd.prog 66 #[v, .int .i64 (-1), .int .i64 2] w' (RetTB w' Ed) := fun w' v hr hT => by rw [← qd]; exact erep_any v _ (-1) 2 (by unfold I64; omega) (by unfold I64; omega) w' hr w_x.1 (by have := w_x.2; unfold bigN; omega) hT
  have me : ∀ w' v, RTree (Old w') w' v x → Tab w' → Calls Tryd.prog 66 #[v, .int .i64 0, .int .i64 100] w' (RetTB w' Ee) := fun w' v hr hT => by rw [← qe]; exact erep_any v _ 0 100 (by unfold I64; omega) (by unfold I64; omega) w' hr w_x.1 (by have := w_x.2; unfold bigN; omega) hT
  have mz : ∀ w' v, RTree (Old w') w' v deep → Tab w' → Calls Tryd.prog 58 #[v] w' (RetTB w' (want, true)) := fun w' v hr hT => by rw [← qz]; exact make_any v _ w' hr w_dp.1 hT
  have mt : ∀ w' v, RTree (Old w') w' v turnT → Tab w' → Calls Tryd.prog 58 #[v] w' (RetTB w' (ab, true)) := fun w' v hr hT => by rw [← qt]; exact make_any v _ w' hr w_tn.1 hT
  have o1 : ∀ w' v, RTree (Old w') w' v badS → Tab w' → Calls Tryd.prog 59 #[v] w' (RetTs w' []) := fun w' v hr hT => by rw [← n2]; exact eparts_any v _ w' hr w_bd.1 hT
  have o2 : ∀ w' v, RTree (Old w') w' v badS → Tab w' → Calls Tryd.prog 60 #[v] w' (RetTs w' []) := fun w' v hr hT => by rw [← n3]; exact ways_any v _ w' hr w_bd.1 hT
  have o3 : ∀ w' v, RTree (Old w') w' v em → Tab w' → Calls Tryd.prog 59 #[v] w' (RetTs w' []) := fun w' v hr hT => by rw [← n4]; exact eparts_any v _ w' hr w_em.1 hT
  have o4 : ∀ w' v, RTree (Old w') w' v em → Tab w' → Calls Tryd.prog 60 #[v] w' (RetTs w' (waysP em)) := fun w' v hr hT => ways_any v _ w' hr w_em.1 hT
  have o5 : ∀ w' v, RTree (Old w') w' v x → Tab w' → Calls Tryd.prog 59 #[v] w' (RetTs w' (partsP x)) := fun w' v hr hT => eparts_any v _ w' hr w_x.1 hT
  generalize waysP em = WE at *
  generalize partsP x = PX at *
  have u1 : (!decide ((WE.length : Int) = 1)) = false := by rw [n5]; rfl
  have u2 : (!decide ((PX.length : Int) = 1)) = false := by rw [n6]; rfl
  have zb : ∀ {w' : World}, RTree (Old w') w' (.agg #[.slice none 0 0, .int .i64 0]) Tre.zero := ⟨_, rfl, none, 0, [], rfl, Arr.nil, .nil, Nat.le_refl _⟩
  repeat' (first | ((apply T.ev_; exact rfl; apply Ev.loadW; exact rfl; exact AtR; exact rfl)) | (refine W1 ?_) | (refine W2 (fun hc => ?_) (fun hc => ?_)) | (intro _))
  refine T.callV rfl rfl (fun w' hw' => awake5_any w' (Tab.st hT hw')) ?_
  repeat' (first | ((apply T.ev_; exact rfl; apply Ev.loadW; exact rfl; exact AtR; exact rfl)) | (refine W1 ?_) | (refine W2 (fun hc => ?_) (fun hc => ?_)) | (intro _))
  refine T.callR rfl rfl (fun w' hw' => tx_ w') (fun p1 _ => ?_)
  refine T.callR rfl rfl (fun w' hw' => ty_ w') (fun p2 _ => ?_)
  repeat' (first | ((apply T.ev_; exact rfl; apply Ev.loadW; exact rfl; exact AtR; exact rfl)) | (refine W1 ?_) | (refine W2 (fun hc => ?_) (fun hc => ?_)) | (intro _))
  rename_i v1 v2 B v3
  refine T.ex (ι := Unit) (M' := fun _ => St w [blk v3 [.slice (some ⟨B, 0, none⟩) 1 1, .int .i64 0] 24, hNodes (.slice (some ⟨B, 0, none⟩) 1 1) badS.nodes, blk v2 [.slice p2.1 y.nodes.length p2.2, .int .i64 y.root] 24, hNodes (.slice p2.1 y.nodes.length p2.2) y.nodes, blk v1 [.slice p1.1 x.nodes.length p1.2, .int .i64 x.root] 24, hNodes (.slice p1.1 x.nodes.length p1.2) x.nodes]) (fun w' hw => ⟨(), ?_⟩) (fun _ => ?_)
  · have g1 : St w [own 34 9 (some ⟨B, 0, none⟩) 1 1 [seqN0.cells (.slice none 0 0)], blk v3 [.slice (some ⟨B, 0, none⟩) 1 1, .int .i64 0] 24, blk v2 [.slice p2.1 y.nodes.length p2.2, .int .i64 y.root] 24, hNodes (.slice p2.1 y.nodes.length p2.2) y.nodes, blk v1 [.slice p1.1 x.nodes.length p1.2, .int .i64 x.root] 24, hNodes (.slice p1.1 x.nodes.length p1.2) x.nodes] w' := St.inc IncQ hw
    have g2 := St.weak (H' := hNodes (.slice (some ⟨B, 0, none⟩) 1 1) badS.nodes) (fun S w h => hNodes_leaf rfl h) g1
    exact St.inc IncQ g2
  have hB : ∀ {L : List HP} {w' : World}, St w L w' → At L (hNodes (.slice (some ⟨B, 0, none⟩) 1 1) badS.nodes) → RTree (Old w') w' (.agg #[.slice (some ⟨B, 0, none⟩) 1 1, .int .i64 0]) badS := fun h ha => St.get_treeN (A := some ⟨B, 0, none⟩) (c := 1) (t := badS) h ha
  have hBc : ∀ {L : List HP} {w' : World}, St w L w' → At L (hNodes (.slice (some ⟨B, 0, none⟩) 1 1) badS.nodes) → RTreeC (Old w') w' [.slice (some ⟨B, 0, none⟩) 1 1, .int .i64 0] badS := fun h ha => RTree.c (A := some ⟨B, 0, none⟩) (c := 1) (t := badS) (hB h ha)
  refine T.callR rfl rfl (fun w' hw' => m1 w' _ (hB hw' AtR) (Tab.st hT hw')) (fun r1 _ => ?_)
  repeat' (first | ((apply T.ev_; exact rfl; apply Ev.loadW; exact rfl; exact AtR; exact rfl)) | (refine W1 ?_) | (refine W2 (fun hc => ?_) (fun hc => ?_)) | (intro _))
  rename_i _ B2
  -- the others
  refine T.callR rfl rfl (fun w' hw' => m2 w' _ (RTrees.of rfl hw' .here (All2.more (St.get_treeN (A := p1.1) (c := p1.2) (t := x) hw' AtR).c (All2.more (hBc hw' AtR) .nil))) (Tab.st hT hw')) (fun r_m2 _ => ?_)
  repeat' (first | ((apply T.ev_; exact rfl; apply Ev.loadW; exact rfl; exact AtR; exact rfl)) | (refine W1 ?_) | (refine W2 (fun hc => ?_) (fun hc => ?_)) | (intro _))
  refine T.callR rfl rfl (fun w' hw' => m3 w' _ (RTrees.of rfl hw' .here (All2.more (hBc hw' AtR) .nil)) (Tab.st hT hw')) (fun r_m3 _ => ?_)
  repeat' (first | ((apply T.ev_; exact rfl; apply Ev.loadW; exact rfl; exact AtR; exact rfl)) | (refine W1 ?_) | (refine W2 (fun hc => ?_) (fun hc => ?_)) | (intro _))
  refine T.callR rfl rfl (fun w' hw' => m4 w' _ (hB hw' AtR) (Tab.st hT hw')) (fun r_m4 _ => ?_)
  repeat' (first | ((apply T.ev_; exact rfl; apply Ev.loadW; exact rfl; exact AtR; exact rfl)) | (refine W1 ?_) | (refine W2 (fun hc => ?_) (fun hc => ?_)) | (intro _))
  refine T.callR rfl rfl (fun w' hw' => m5 w' _ zb (Tab.st hT hw')) (fun r_m5 _ => ?_)
  repeat' (first | ((apply T.ev_; exact rfl; apply Ev.loadW; exact rfl; exact AtR; exact rfl)) | (refine W1 ?_) | (refine W2 (fun hc => ?_) (fun hc => ?_)) | (intro _))
  refine T.callR rfl rfl (fun w' hw' => m6 w' _ (hB hw' AtR) (Tab.st hT hw')) (fun r_m6 _ => ?_)
  repeat' (first | ((apply T.ev_; exact rfl; apply Ev.loadW; exact rfl; exact AtR; exact rfl)) | (refine W1 ?_) | (refine W2 (fun hc => ?_) (fun hc => ?_)) | (intro _))
  refine T.callR rfl rfl (fun w' hw' => m7 w' _ (hB hw' AtR) (Tab.st hT hw')) (fun r_m7 _ => ?_)
  repeat' (first | ((apply T.ev_; exact rfl; apply Ev.loadW; exact rfl; exact AtR; exact rfl)) | (refine W1 ?_) | (refine W2 (fun hc => ?_) (fun hc => ?_)) | (intro _))
  refine T.callR rfl rfl (fun w' hw' => m8 w' _ (St.get_treeN (A := p1.1) (c := p1.2) (t := x) hw' AtR) (Tab.st hT hw')) (fun r_m8 _ => ?_)
  repeat' (first | ((apply T.ev_; exact rfl; apply Ev.loadW; exact rfl; exact AtR; exact rfl)) | (refine W1 ?_) | (refine W2 (fun hc => ?_) (fun hc => ?_)) | (intro _))
  refine T.callR rfl rfl (fun w' hw' => m9 w' _ (hB hw' AtR) (Tab.st hT hw')) (fun r_m9 _ => ?_)
  repeat' (first | ((apply T.ev_; exact rfl; apply Ev.loadW; exact rfl; exact AtR; exact rfl)) | (refine W1 ?_) | (refine W2 (fun hc => ?_) (fun hc => ?_)) | (intro _))
  refine T.callR rfl rfl (fun w' hw' => ma w' _ (hB hw' AtR) (Tab.st hT hw')) (fun r_ma _ => ?_)
  repeat' (first | ((apply T.ev_; exact rfl; apply Ev.loadW; exact rfl; exact AtR; exact rfl)) | (refine W1 ?_) | (refine W2 (fun hc => ?_) (fun hc => ?_)) | (intro _))
  refine T.callR rfl rfl (fun w' hw' => te w') (fun e_mb _ => ?_)
  repeat' (first | ((apply T.ev_; exact rfl; apply Ev.loadW; exact rfl; exact AtR; exact rfl)) | (refine W1 ?_) | (refine W2 (fun hc => ?_) (fun hc => ?_)) | (intro _))
  refine T.callR rfl rfl (fun w' hw' => mb w' _ (St.get_treeN (A := e_mb.1) (c := e_mb.2) (t := em) hw' AtR) (Tab.st hT hw')) (fun r_mb _ => ?_)
  repeat' (first | ((apply T.ev_; exact rfl; apply Ev.loadW; exact rfl; exact AtR; exact rfl)) | (refine W1 ?_) | (refine W2 (fun hc => ?_) (fun hc => ?_)) | (intro _))
  refine T.callR rfl rfl (fun w' hw' => te w') (fun e_mc _ => ?_)
  repeat' (first | ((apply T.ev_; exact rfl; apply Ev.loadW; exact rfl; exact AtR; exact rfl)) | (refine W1 ?_) | (refine W2 (fun hc => ?_) (fun hc => ?_)) | (intro _))
  refine T.callR rfl rfl (fun w' hw' => mc w' _ (St.get_treeN (A := e_mc.1) (c := e_mc.2) (t := em) hw' AtR) (Tab.st hT hw')) (fun r_mc _ => ?_)
  repeat' (first | ((apply T.ev_; exact rfl; apply Ev.loadW; exact rfl; exact AtR; exact rfl)) | (refine W1 ?_) | (refine W2 (fun hc => ?_) (fun hc => ?_)) | (intro _))
  refine T.callR rfl rfl (fun w' hw' => md w' _ (St.get_treeN (A := p1.1) (c := p1.2) (t := x) hw' AtR) (Tab.st hT hw')) (fun r_md _ => ?_)
  repeat' (first | ((apply T.ev_; exact rfl; apply Ev.loadW; exact rfl; exact AtR; exact rfl)) | (refine W1 ?_) | (refine W2 (fun hc => ?_) (fun hc => ?_)) | (intro _))
  refine T.callR rfl rfl (fun w' hw' => me w' _ (St.get_treeN (A := p1.1) (c := p1.2) (t := x) hw' AtR) (Tab.st hT hw')) (fun r_me _ => ?_)
  repeat' (first | ((apply T.ev_; exact rfl; apply Ev.loadW; exact rfl; exact AtR; exact rfl)) | ((refine TC.hold 19 ?_)) | (refine W1 ?_) | (refine W2 (fun hc => ?_) (fun hc => ?_)) | (intro _))
  refine ⟨?_⟩
  refine TC.few [(1, .pointer (some ⟨v1, 0, none⟩)), (2, .pointer (some ⟨v2, 0, none⟩)), (3, .pointer (some ⟨v3, 0, none⟩)), (5, .bool E1.2), (7, .bool E2.2), (9, .bool E3.2), (11, .bool E4.2), (13, .bool E5.2), (15, .bool E6.2), (17, .bool E7.2), (19, .bool E8.2), (21, .bool E9.2), (23, .bool Ea.2), (25, .bool Eb.2), (27, .bool Ec.2), (29, .bool Ed.2), (31, .bool Ee.2)] SubA ?_
  dsimp only [List.append]
  refine TC.sub (M' := St w [blk v3 [.slice (some ⟨B, 0, none⟩) 1 1, .int .i64 0] 24, hNodes (.slice (some ⟨B, 0, none⟩) 1 1) badS.nodes, blk v2 [.slice p2.1 y.nodes.length p2.2, .int .i64 y.root] 24, hNodes (.slice p2.1 y.nodes.length p2.2) y.nodes, blk v1 [.slice p1.1 x.nodes.length p1.2, .int .i64 x.root] 24, hNodes (.slice p1.1 x.nodes.length p1.2) x.nodes]) (fun w' hw => St.inc IncQ hw) ?_
  have i1 : I64 ((([] : List Tre).length : Int) + (([] : List Tre).length : Int)) := by unfold I64; decide
  have i2 : I64 ((([] : List Tre).length : Int) + (([] : List Tre).length : Int) + (([] : List Tre).length : Int)) := by unfold I64; decide
  apply TC.seq
  apply TC.seq
  refine TC.lexT [] (.seg [0, 1, 2, 3, 4, 5, 6, 7, 8, 9, 10, 11, 12, 13, 14, 15, 16, 17, 18, 19, 20, 21, 22, 23, 24, 25, 26, 27, 28, 29, 30, 31, 32, 33, 34, 35, 36, 37, 38, 39, 40, 41, 42, 43, 44, 45, 48, 46, 47, 49, 50, 51, 52, 53, 54, 55, 56, 57, 58, 59, 60, 61, 62, 63, 64, 65, 66, 67, 68, 69] .fin) mixed (by kernel_rfl) (TT.seg rfl ?_)
  repeat' (first | ((apply TX.tree)) | ((apply TT.fin)) | ((apply TL.quiet; exact rfl; exact rfl; exact St.base IncB; apply Ev.loadW; exact rfl; exact AtR; exact rfl)) | (refine W1 ?_) | (refine W2 (fun hc => ?_) (fun hc => ?_)) | (intro _))
  refine TL.kcallV rfl (fun w' hw' => enormal_any _ badS w' (hB hw' AtR) w_bd.1 (Tab.st hT hw')) rfl rfl (St.base IncB) ?_
  repeat' (first | ((apply TX.tree)) | ((apply TT.fin)) | ((apply TL.quiet; exact rfl; exact rfl; exact St.base IncB; apply Ev.loadW; exact rfl; exact AtR; exact rfl)) | (refine W1 ?_) | (refine W2 (fun hc => ?_) (fun hc => ?_)) | (intro _))
  refine TL.kcallR rfl (fun w' hw' => o1 w' _ (hB hw' AtR) (Tab.st hT hw')) rfl rfl (St.base IncB) (fun g1 _ => ?_)
  repeat' (first | ((apply TX.tree)) | ((apply TT.fin)) | ((apply TL.quiet; exact rfl; exact rfl; exact St.base IncB; apply Ev.loadW; exact rfl; exact AtR; exact rfl)) | (refine W1 ?_) | (refine W2 (fun hc => ?_) (fun hc => ?_)) | (intro _))
  refine TL.kcallR rfl (fun w' hw' => o2 w' _ (hB hw' AtR) (Tab.st hT hw')) rfl rfl (St.base IncB) (fun g2 _ => ?_)
  repeat' (first | ((apply TX.tree)) | ((apply TT.fin)) | ((apply TL.quiet; exact rfl; exact rfl; exact St.base IncB; apply Ev.loadW; exact rfl; exact AtR; exact rfl)) | (refine W1 ?_) | (refine W2 (fun hc => ?_) (fun hc => ?_)) | (intro _))
  refine TL.kcallR rfl (fun w' hw' => te w') rfl rfl (St.base IncB) (fun g3 _ => ?_)
  repeat' (first | ((apply TX.tree)) | ((apply TT.fin)) | ((apply TL.quiet; exact rfl; exact rfl; exact St.base IncB; apply Ev.loadW; exact rfl; exact AtR; exact rfl)) | (refine W1 ?_) | (refine W2 (fun hc => ?_) (fun hc => ?_)) | (intro _))
  refine TL.kcallR rfl (fun w' hw' => o3 w' _ (St.get_treeN (A := g3.1) (c := g3.2) (t := em) hw' AtR) (Tab.st hT hw')) rfl rfl (St.base IncB) (fun g4 _ => ?_)
  repeat' (first | ((apply TX.tree)) | ((apply TT.fin)) | ((apply TL.quiet; exact rfl; exact rfl; exact St.base IncB; apply Ev.loadW; exact rfl; exact AtR; exact rfl)) | (refine W1 ?_) | (refine W2 (fun hc => ?_) (fun hc => ?_)) | (intro _))
  refine TL.kcallR rfl (fun w' hw' => te w') rfl rfl (St.base IncB) (fun g5 _ => ?_)
  repeat' (first | ((apply TX.tree)) | ((apply TT.fin)) | ((apply TL.quiet; exact rfl; exact rfl; exact St.base IncB; apply Ev.loadW; exact rfl; exact AtR; exact rfl)) | (refine W1 ?_) | (refine W2 (fun hc => ?_) (fun hc => ?_)) | (intro _))
  refine TL.kcallR rfl (fun w' hw' => o4 w' _ (St.get_treeN (A := g5.1) (c := g5.2) (t := em) hw' AtR) (Tab.st hT hw')) rfl rfl (St.base IncB) (fun g6 _ => ?_)
  repeat' (first | ((apply TX.tree)) | ((apply TT.fin)) | ((apply TL.quiet; exact rfl; exact rfl; exact St.base IncB; apply Ev.loadW; exact rfl; exact AtR; exact rfl)) | (refine W1 ?_) | (refine W2 (fun hc => ?_) (fun hc => ?_)) | (intro _))
  refine TL.kcallR rfl (fun w' hw' => o5 w' _ (St.get_treeN (A := p1.1) (c := p1.2) (t := x) hw' AtR) (Tab.st hT hw')) rfl rfl (St.base IncB) (fun g7 _ => ?_)
  repeat' (first | ((apply TX.tree)) | ((apply TT.fin)) | ((refine TC.holdR 21 ?_)) | (refine W1 ?_) | (refine W2 (fun hc => ?_) (fun hc => ?_)) | (intro _))
  refine ⟨?_⟩
  refine TC.few [(1, .pointer (some ⟨v1, 0, none⟩)), (2, .pointer (some ⟨v2, 0, none⟩)), (3, .pointer (some ⟨v3, 0, none⟩))] SubA ?_
  refine TC.sub (M' := St w [blk v1 [.slice p1.1 x.nodes.length p1.2, .int .i64 x.root] 24, hNodes (.slice p1.1 x.nodes.length p1.2) x.nodes, blk v2 [.slice p2.1 y.nodes.length p2.2, .int .i64 y.root] 24, hNodes (.slice p2.1 y.nodes.length p2.2) y.nodes]) (fun w' hw => St.inc IncQ hw) ?_
  exact names21 hN0 ta tb te w hT v1 v2 v3 p1 p2
end Go.Proofs.YtlhkkngpppcfoaaDoor
