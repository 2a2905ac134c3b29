/-
  What the closed law ExprNames comes to behind its first two dozen statements: true.
-/
import Derived.Test.YtlhkkngpppcfoaaDoorAwake5
set_option linter.all false
namespace Go.Bonsai
open Go Go.Sl Go.RowKit
def badS : Tre := ⟨[seqN0], 0⟩
def turnT : Tre := ⟨[⟨2, .zero, ⟨#[98]⟩, 0, 0, []⟩, ⟨2, .zero, ⟨#[97]⟩, 0, 0, []⟩, ⟨4, .zero, ⟨#[]⟩, 0, 0, [1, 0]⟩], 2⟩
def okT2 (t : Tre) : Bool := t.nodes.all okNB && decide (t.nodes.length ≤ 20) && decide (-100 ≤ t.root) && decide (t.root ≤ 100)
theorem okT2_wf {t : Tre} (h : okT2 t = true) : t.wf ∧ t.nodes.length ≤ 20 := by
  simp only [okT2, Bool.and_eq_true, decide_eq_true_eq] at h
  refine ⟨⟨by unfold bigN; omega, fun n hn => ?_, by unfold I64; omega⟩, h.1.1.2⟩
  have h1 : okTB ⟨[n], 0⟩ = true := by
    unfold okTB
    rw [List.all_cons, List.all_nil, List.all_eq_true.1 h.1.1.1 n hn]
    rfl
  exact (okTB_wf h1).1.nodes n (List.mem_singleton.2 rfl)
/-- what the closed statement's trees are -/
structure Nm (em a b x y s1 c1 s2 c2 s3 deep c3 s4 want c4 c5 ab : Tre) (E1 E2 E3 E4 E5 E6 E7 E8 E9 Ea Eb Ec Ed Ee Z : Tre × Bool) : Prop where
  d1 : (ofP seqN0 [x, em]).1 = s1
  d2 : (ofP choN0 [x, y]).1 = c1
  d3 : (ofP seqN0 [em, em]).1 = s2
  d4 : (ofP choN0 [c1, s2]).1 = c2
  d5 : (ofP seqN0 [s1, c2]).1 = s3
  d6 : (ofP notN0 [s3]).1 = deep
  d7 : (ofP choN0 [x, y, em]).1 = c3
  d8 : (ofP seqN0 [x, c3]).1 = s4
  d9 : (ofP notN0 [s4]).1 = want
  da : (ofP choN0 [x, c1]).1 = c4
  db : (ofP choN0 [x, em]).1 = c5
  dc : (ofP seqN0 [a, b]).1 = ab
  q1 : makeP badS = E1
  q2 : putP seqN0 [x, badS] = E2
  q3 : putP choN0 [badS] = E3
  q4 : putP (repN 0 1) [badS] = E4
  q5 : putP andN0 [Tre.zero] = E5
  q6 : putP notN0 [badS] = E6
  q7 : putP (capN ⟨#[110]⟩) [badS] = E7
  q8 : putP (capN ⟨#[49, 110]⟩) [x] = E8
  q9 : headP badS = E9
  qa : tailP badS = Ea
  qb : headP em = Eb
  qc : tailP em = Ec
  qd : putP (repN (-1) 2) [x] = Ed
  qe : putP (repN 0 100) [x] = Ee
  qz : makeP deep = Z
  qt : makeP turnT = (ab, true)
  f : E1.2 = false ∧ E2.2 = false ∧ E3.2 = false ∧ E4.2 = false ∧ E5.2 = false ∧ E6.2 = false ∧ E7.2 = false ∧ E8.2 = false ∧ E9.2 = false ∧ Ea.2 = false ∧ Eb.2 = false ∧ Ec.2 = false ∧ Ed.2 = false ∧ Ee.2 = false
  z : Z = (want, true)
  n1 : normalP badS = false
  n2 : partsP badS = []
  n3 : waysP badS = []
  n4 : partsP em = []
  n5 : (waysP em).length = 1
  n6 : (partsP x).length = 1
  n7 : normalP deep = false
  n8 : normalP want = true
  n9 : normalP em = true
  na : normalP c4 = false
  nb : normalP s1 = false
  nc : normalP c5 = true
  nd : normalP turnT = true
  w : ∀ t ∈ [em, a, b, x, y, s1, c1, s2, c2, s3, deep, c3, s4, want, c4, c5, ab, badS, turnT, Tre.zero], t.wf ∧ t.nodes.length ≤ 20
theorem nm_ex : ∃ em a b x y s1 c1 s2 c2 s3 deep c3 s4 want c4 c5 ab : Tre, ∃ E1 E2 E3 E4 E5 E6 E7 E8 E9 Ea Eb Ec Ed Ee Z : Tre × Bool, Nm em a b x y s1 c1 s2 c2 s3 deep c3 s4 want c4 c5 ab E1 E2 E3 E4 E5 E6 E7 E8 E9 Ea Eb Ec Ed Ee Z ∧ a = tx [97] ∧ b = tx [98] ∧ x = ru [120] ∧ y = ru [121] ∧ em = _root_.Go.Bonsai.em := by
  refine ⟨em, tx [97], tx [98], ru [120], ru [121], _, _, _, _, _, _, _, _, _, _, _, _, _, _, _, _, _, _, _, _, _, _, _, _, _, _, _, ⟨rfl, rfl, rfl, rfl, rfl, rfl, rfl, rfl, rfl, rfl, rfl, rfl, rfl, rfl, rfl, rfl, rfl, rfl, rfl, rfl, rfl, rfl, rfl, rfl, rfl, rfl, rfl, ?_, ?_, ?_, ?_, ?_, ?_, ?_, ?_, ?_, ?_, ?_, ?_, ?_, ?_, ?_, ?_, ?_⟩, rfl, rfl, rfl, rfl, rfl⟩
  case refine_17 =>
    have h : ∀ l : List Tre, l.all okT2 = true → ∀ t ∈ l, t.wf ∧ t.nodes.length ≤ 20 := fun l h t ht => okT2_wf (List.all_eq_true.1 h t ht)
    exact h _ (by decide +kernel)
  all_goals decide +kernel
end Go.Bonsai
namespace Go.Proofs.YtlhkkngpppcfoaaDoor
open Go Go.Sl Go.RowKit Go.Bonsai
set_option linter.unusedVariables false
set_option linter.unusedSimpArgs false

theorem TC.few {P : Program} {c : Code} {Q : Exit → Act → World → Prop} {n : FD} {s : Sg} {M : World → Prop} (s' : Sg) (hs : Sub s' s) (k : TC P c Q n s' M) : TC P c Q n s M := ⟨fun a w hf hm => k.go a w (hf.sub hs) hm⟩
section
variable {P : Program} {C : World → Prop} {l : List Oper} {ks : Nat → Kd} {Q : Exit → Act → World → Prop} {n : FD} {s : Sg} {M : World → Prop} {t : Tr}
theorem TT.abs (h : ∀ F : Tr → Sg → (World → Prop) → Prop, (∀ t s M, F t s M → TT P C l ks Q t n s M) → (∀ t s M, TT P C l ks Q t n s M → F t s M) → F t s M) : TT P C l ks Q t n s M :=
  h (fun t s M => TT P C l ks Q t n s M) (fun _ _ _ h => h) (fun _ _ _ h => h)
theorem TT.few {s' : Sg} {M' : World → Prop} (k : TT P C l ks Q t n s' M') (hs : Sub s' s) (hM : ∀ w, M w → M' w) : TT P C l ks Q t n s M := ⟨fun a w hf hm => k.go a w (hf.sub hs) (hM w hm)⟩
theorem wpLex_app {ops : Array Oper} {Q : Exit → Act → World → Prop} (r2 : List Nat) : ∀ r1 : List Nat, wpLex P C ops ks Q (r1 ++ r2) = wpLex P C ops ks (fun _ => wpLex P C ops ks Q r2) r1
  | [] => rfl
  | i :: r => by
    show opI P C ops ks i (wpLex P C ops ks Q (r ++ r2)) = opI P C ops ks i (wpLex P C ops ks (fun _ => wpLex P C ops ks Q r2) r)
    rw [wpLex_app r2 r]
theorem TT.cut2 {r1 r2 : List Nat} (k : TT P C l ks Q (.seg r1 (.seg r2 t)) n s M) : TT P C l ks Q (.seg (r1 ++ r2) t) n s M := by
  refine ⟨fun a w hf hm => ?_⟩
  have h1 := k.go a w hf hm
  show wpLex P C l.toArray ks (fun _ => wpT P C l.toArray ks Q t) (r1 ++ r2) a w
  rw [wpLex_app]
  exact h1
end
theorem capN_wf5 {s : ByteArray} (h : s.size ≤ 300) : (capN s).wf := ⟨by show 0 ≤ (9 : Int) ∧ (9 : Int) ≤ 255; decide, Nod.zero_wf.set, by show s.size ≤ 140737488355328; omega, Nod.zero_wf.min, Nod.zero_wf.max, Nod.zero_wf.kids⟩
theorem tot_small2 {l : List Tre} (h : ∀ t ∈ l, t.wf ∧ t.nodes.length ≤ 20) : tot l ≤ 20 * l.length := by
  induction l with
  | nil => simp [tot]
  | cons t l ih =>
    have h1 := (h t (by simp)).2
    have h2 := ih (fun x hx => h x (by simp [hx]))
    rw [tot_cons, List.length_cons]
    omega
theorem of5_sm {n : Nod} {l : List Tre} {r : Tre} (he : (ofP n l).1 = r) (hn0 : n = ⟨n.kind, .zero, ⟨#[]⟩, 0, 0, []⟩) (hn : n.wf) (hl : l.length ≤ 100) (h : ∀ t ∈ l, t.wf ∧ t.nodes.length ≤ 20) (v : Value) (w : World) (hr : RTrees (Old w) w v l) (hT : Tab w) :
    Calls Tryd.prog 83 #[.int .u8 n.kind, v] w (RetT w r) := by
  have h1 := tot_small2 h
  rw [← he]
  exact of5_any n hn0 v l w hn hr (by unfold bigN; omega) (fun t ht => (h t ht).1) (by unfold bigN; omega) hT
theorem put_sm {n : Nod} {l : List Tre} {r : Tre × Bool} {f : FuncId} {args : Value → Array Value} (he : putP n l = r) (hl : l.length ≤ 100) (h : ∀ t ∈ l, t.wf ∧ t.nodes.length ≤ 20)
    (c : ∀ v w, RTrees (Old w) w v l → l.length ≤ bigN → (∀ t ∈ l, t.wf) → tot l + 1 ≤ bigN → Tab w → Calls Tryd.prog f (args v) w (RetTB w (putP n l))) (v : Value) (w : World) (hr : RTrees (Old w) w v l) (hT : Tab w) : Calls Tryd.prog f (args v) w (RetTB w r) := by
  have h1 := tot_small2 h
  rw [← he]
  exact c v w hr (by unfold bigN; omega) (fun t ht => (h t ht).1) (by unfold bigN; omega) hT
def tlC : Nat → Code → Code
  | 0, c => c
  | n + 1, .seq _ c => tlC n c
  | _, c => c
set_option maxHeartbeats 16000000 in
set_option maxRecDepth 20000 in
theorem names23 {em a b x y s1 c1 s2 c2 s3 deep c3 s4 want c4 c5 ab : Tre} {E1 E2 E3 E4 E5 E6 E7 E8 E9 Ea Eb Ec Ed Ee Z : Tre × Bool} (hN : Nm em a b x y s1 c1 s2 c2 s3 deep c3 s4 want c4 c5 ab E1 E2 E3 E4 E5 E6 E7 E8 E9 Ea Eb Ec Ed Ee Z)
    (ta : ∀ w', Calls Tryd.prog 84 #[.string ⟨#[97]⟩] w' (RetT w' a)) (tb : ∀ w', Calls Tryd.prog 84 #[.string ⟨#[98]⟩] w' (RetT w' b)) (te : ∀ w', Calls Tryd.prog 23 #[] w' (RetT w' em))
    (w : World) (hT : Tab w) (v1 v2 v3 : Nat) (p1 p2 : Option Addr × Nat) (vdp vwt : Nat) (qdp qwt : Option Addr × Nat) :
    TC Tryd.prog (tlC 21 (Tryd.f14.body.getD .skip)) (bodyPost Tryd.prog Tryd.f14 (RetV w (.bool true))) ⟨287, []⟩ [(33, .pointer (some ⟨vwt, 0, none⟩)), (32, .pointer (some ⟨vdp, 0, none⟩)), (1, .pointer (some ⟨v1, 0, none⟩)), (2, .pointer (some ⟨v2, 0, none⟩)), (3, .pointer (some ⟨v3, 0, none⟩))] (St w [blk vwt [.slice qwt.1 want.nodes.length qwt.2, .int .i64 want.root] 24, hNodes (.slice qwt.1 want.nodes.length qwt.2) want.nodes, blk vdp [.slice qdp.1 deep.nodes.length qdp.2, .int .i64 deep.root] 24, hNodes (.slice qdp.1 deep.nodes.length qdp.2) deep.nodes, blk v1 [.slice p1.1 x.nodes.length p1.2, .int .i64 x.root] 24, hNodes (.slice p1.1 x.nodes.length p1.2) x.nodes, blk v2 [.slice p2.1 y.nodes.length p2.2, .int .i64 y.root] 24, hNodes (.slice p2.1 y.nodes.length p2.2) y.nodes]) := by
  have hN0 := hN
  obtain ⟨d1, d2, d3, d4, d5, d6, d7, d8, d9, da, db, dc, q1, q2, q3, q4, q5, q6, q7, q8, q9, qa, qb, qc, qd, qe, qz, qt, ⟨f1, f2, f3, f4, f5, f6, f7, f8, f9, fa, fb, fc, fd, fe⟩, hz, n1, n2, n3, n4, n5, n6, n7, n8, n9, na, nb, nc, nd, hwf⟩ := hN
  have w_em := hwf em (by simp)
  have w_a := hwf a (by simp)
  have w_b := hwf b (by simp)
  have w_x := hwf x (by simp)
  have w_y := hwf y (by simp)
  have w_s1 := hwf s1 (by simp)
  have w_c1 := hwf c1 (by simp)
  have w_s2 := hwf s2 (by simp)
  have w_c2 := hwf c2 (by simp)
  have w_s3 := hwf s3 (by simp)
  have w_dp := hwf deep (by simp)
  have w_c3 := hwf c3 (by simp)
  have w_s4 := hwf s4 (by simp)
  have w_wt := hwf want (by simp)
  have w_c4 := hwf c4 (by simp)
  have w_c5 := hwf c5 (by simp)
  have w_ab := hwf ab (by simp)
  have w_bd := hwf badS (by simp)
  have w_tn := hwf turnT (by simp)
  have w_ze := hwf Tre.zero (by simp)
  clear hwf
  have l1 : ∀ {p : Tre → Prop} {s : Tre}, p s → ∀ t ∈ [s], p t := fun h t ht => by simp at ht; subst ht; exact h
  have l2 : ∀ {p : Tre → Prop} {s r : Tre}, p s → p r → ∀ t ∈ [s, r], p t := fun h1 h2 t ht => by simp at ht; rcases ht with rfl | rfl <;> assumption
  have l3 : ∀ {p : Tre → Prop} {s r q : Tre}, p s → p r → p q → ∀ t ∈ [s, r, q], p t := fun h1 h2 h3 t ht => by simp at ht; rcases ht with rfl | rfl | rfl <;> assumption
  subst hz
  have hbl : badS.nodes.length < bigN := by decide +kernel
  have mz : ∀ w' v, RTree (Old w') w' v deep → Tab w' → Calls Tryd.prog 58 #[v] w' (RetTB w' (want, true)) := fun w' v hr hT => by rw [← qz]; exact make_any v _ w' hr w_dp.1 hT
  have mt : ∀ w' v, RTree (Old w') w' v turnT → Tab w' → Calls Tryd.prog 58 #[v] w' (RetTB w' (ab, true)) := fun w' v hr hT => by rw [← qt]; exact make_any v _ w' hr w_tn.1 hT
  repeat' (first | ((apply T.ev_; exact rfl; apply Ev.loadW; exact rfl; exact AtR; exact rfl)) | (refine W1 ?_) | (refine W2 (fun hc => ?_) (fun hc => ?_)) | (intro _))
  refine T.callR rfl rfl (fun w' hw' => mz w' _ (St.get_treeN (A := qdp.1) (c := qdp.2) (t := deep) hw' AtR) (Tab.st hT hw')) (fun qz _ => ?_)
  repeat' (first | ((apply T.ev_; exact rfl; apply Ev.loadW; exact rfl; exact AtR; exact rfl)) | ((refine TC.hold 24 ?_)) | (refine W1 ?_) | (refine W2 (fun hc => ?_) (fun hc => ?_)) | (intro _))
  rename_i vz
  refine ⟨?_⟩
  refine TC.few [(1, .pointer (some ⟨v1, 0, none⟩)), (2, .pointer (some ⟨v2, 0, none⟩)), (3, .pointer (some ⟨v3, 0, none⟩)), (32, .pointer (some ⟨vdp, 0, none⟩)), (33, .pointer (some ⟨vwt, 0, none⟩)), (34, .pointer (some ⟨vz, 0, none⟩)), (35, .bool true)] SubA ?_
  have e0 : (!(true && decide (want = want))) = false := by simp
  have e8 : (!normalP want) = false := by rw [n8]; rfl
  have e9 : (!normalP em) = false := by rw [n9]; rfl
  have ec : (!normalP c5) = false := by rw [nc]; rfl
  obtain ⟨wdp, wwt, wem, wc4, ws1, wc5, wab, wtn⟩ := (⟨w_dp.1, w_wt.1, w_em.1, w_c4.1, w_s1.1, w_c5.1, w_ab.1, w_tn.1⟩ : deep.wf ∧ want.wf ∧ em.wf ∧ c4.wf ∧ s1.wf ∧ c5.wf ∧ ab.wf ∧ turnT.wf)
  refine TC.sub (M' := St w [blk vz [.slice qz.1 want.nodes.length qz.2, .int .i64 want.root] 24, hNodes (.slice qz.1 want.nodes.length qz.2) want.nodes, blk vwt [.slice qwt.1 want.nodes.length qwt.2, .int .i64 want.root] 24, hNodes (.slice qwt.1 want.nodes.length qwt.2) want.nodes, blk vdp [.slice qdp.1 deep.nodes.length qdp.2, .int .i64 deep.root] 24, hNodes (.slice qdp.1 deep.nodes.length qdp.2) deep.nodes, blk v1 [.slice p1.1 x.nodes.length p1.2, .int .i64 x.root] 24, hNodes (.slice p1.1 x.nodes.length p1.2) x.nodes, blk v2 [.slice p2.1 y.nodes.length p2.2, .int .i64 y.root] 24, hNodes (.slice p2.1 y.nodes.length p2.2) y.nodes]) (fun w' hw => St.inc IncQ hw) ?_
  apply TC.seq
  apply TC.seq
  refine TC.lexT [] (.seg [0, 1, 2, 3, 4, 5, 6, 7, 8, 9, 10, 11, 12, 13, 14, 15, 16, 17, 18, 19, 20, 21, 22, 23, 24, 25, 26, 27, 28, 29, 30, 31, 32, 33, 34, 35, 36, 37, 38, 39, 40, 41, 42, 43] .fin) mixed (by kernel_rfl) (TT.all rfl (by decide) ?_)
  repeat' (first | ((apply TL.sh)) | ((apply TX.tree)) | ((apply TT.fin)) | ((apply TL.quiet; exact rfl; exact rfl; exact St.base IncB; apply Ev.loadW; exact rfl; exact AtR; exact rfl)) | ((apply TL.keep; exact rfl; exact rfl; exact St.base IncB; (apply Ac.lit2; exact rfl; exact rfl; exact rfl; exact rfl; exact rfl; exact rfl; exact rfl); exact fun _ => St.base IncB)) | ((apply TL.kcallR (f := 23); exact rfl; (intro w' hw'; exact te w'); exact rfl; exact rfl; exact St.base IncB)) | ((apply TL.kcallR (f := 83) (vs := [.int .u8 5, _]); exact rfl; (intro w' hw'; exact of5_sm (l := [x, y]) d2 rfl choN0_wf (by simp) (l2 w_x w_y) _ w' (RTrees.of rfl hw' (by first | exact .here | exact .there .here | exact .there (.there .here) | exact .there (.there (.there .here))) (All2.more (St.get_treeN hw' AtR).c (All2.more (St.get_treeN hw' AtR).c .nil))) (Tab.st hT hw')); exact rfl; exact rfl; exact St.base IncB)) | ((apply TL.kcallR (f := 83) (vs := [.int .u8 5, _]); exact rfl; (intro w' hw'; exact of5_sm (l := [x, c1]) da rfl choN0_wf (by simp) (l2 w_x w_c1) _ w' (RTrees.of rfl hw' (by first | exact .here | exact .there .here | exact .there (.there .here) | exact .there (.there (.there .here))) (All2.more (St.get_treeN hw' AtR).c (All2.more (St.get_treeN hw' AtR).c .nil))) (Tab.st hT hw')); exact rfl; exact rfl; exact St.base IncB)) | ((apply TL.kcallR (f := 83) (vs := [.int .u8 4, _]); exact rfl; (intro w' hw'; exact of5_sm (l := [x, em]) d1 rfl seqN0_wf (by simp) (l2 w_x w_em) _ w' (RTrees.of rfl hw' (by first | exact .here | exact .there .here | exact .there (.there .here) | exact .there (.there (.there .here))) (All2.more (St.get_treeN hw' AtR).c (All2.more (St.get_treeN hw' AtR).c .nil))) (Tab.st hT hw')); exact rfl; exact rfl; exact St.base IncB)) | ((apply TL.kcallR (f := 83) (vs := [.int .u8 5, _]); exact rfl; (intro w' hw'; exact of5_sm (l := [x, em]) db rfl choN0_wf (by simp) (l2 w_x w_em) _ w' (RTrees.of rfl hw' (by first | exact .here | exact .there .here | exact .there (.there .here) | exact .there (.there (.there .here))) (All2.more (St.get_treeN hw' AtR).c (All2.more (St.get_treeN hw' AtR).c .nil))) (Tab.st hT hw')); exact rfl; exact rfl; exact St.base IncB)) | ((apply TL.kcallV (f := 76); exact rfl; (intro w' hw'; exact enormal_any _ _ w' (St.get_treeN hw' AtR) (by assumption) (Tab.st hT hw')); exact rfl; exact rfl; exact St.base IncB)) | ((apply TL.kcallV (f := 56); exact rfl; (intro w' hw'; exact is5_any _ _ _ _ _ w' (St.get_treeN hw' AtR) (St.get_treeN hw' AtR) (by assumption) (by assumption)); exact rfl; exact rfl; exact St.base IncB)) | (refine W1 ?_) | (refine W2 (fun hc => ?_) (fun hc => ?_)) | (intro _))
  rename_i BI BN vt
  refine T.ex (ι := Unit) (M' := fun _ => St w [blk vt [.slice (some ⟨BN, 0, none⟩) 3 3, .int .i64 2] 24, own 34 9 (some ⟨BN, 0, none⟩) 3 3 [(⟨2, .zero, ⟨#[98]⟩, 0, 0, []⟩ : Nod).cells (.slice none 0 0), (⟨2, .zero, ⟨#[97]⟩, 0, 0, []⟩ : Nod).cells (.slice none 0 0), (⟨4, .zero, ⟨#[]⟩, 0, 0, [1, 0]⟩ : Nod).cells (.slice (some ⟨BI, 0, none⟩) 2 2)], own 3 1 (some ⟨BI, 0, none⟩) 2 2 (irows [1, 0])]) (fun w' hw => ⟨(), ?_⟩) (fun _ => ?_)
  · have g0 : St w (blk vt [.slice (some ⟨BN, 0, none⟩) 3 3, .int .i64 2] 24 :: own 34 9 (some ⟨BN, 0, none⟩) 3 3 [(⟨2, .zero, ⟨#[98]⟩, 0, 0, []⟩ : Nod).cells (.slice none 0 0), (⟨2, .zero, ⟨#[97]⟩, 0, 0, []⟩ : Nod).cells (.slice none 0 0), (⟨4, .zero, ⟨#[]⟩, 0, 0, [1, 0]⟩ : Nod).cells (.slice (some ⟨BI, 0, none⟩) 2 2)] :: own 3 1 (some ⟨BI, 0, none⟩) 2 2 (irows [1, 0]) :: _) w' := hw
    exact St.inc IncQ g0
  have hR3 : ∀ {L : List HP} {w' : World}, St w L w' → At L (own 34 9 (some ⟨BN, 0, none⟩) 3 3 [(⟨2, .zero, ⟨#[98]⟩, 0, 0, []⟩ : Nod).cells (.slice none 0 0), (⟨2, .zero, ⟨#[97]⟩, 0, 0, []⟩ : Nod).cells (.slice none 0 0), (⟨4, .zero, ⟨#[]⟩, 0, 0, [1, 0]⟩ : Nod).cells (.slice (some ⟨BI, 0, none⟩) 2 2)]) → At L (own 3 1 (some ⟨BI, 0, none⟩) 2 2 (irows [1, 0])) → RTree (Old w') w' (.agg #[.slice (some ⟨BN, 0, none⟩) 3 3, .int .i64 2]) turnT := fun h ha hi => ⟨_, rfl, some ⟨BN, 0, none⟩, 3, _, rfl, St.own_arr h ha, All2.more (RNode.leaf rfl) (All2.more (RNode.leaf rfl) (All2.more ⟨.slice (some ⟨BI, 0, none⟩) 2 2, rfl, some ⟨BI, 0, none⟩, 2, rfl, St.own_arr h hi, Nat.le_refl _⟩ .nil)), Nat.le_refl _⟩
  refine T.callR rfl rfl (fun w' hw' => mt w' _ (hR3 hw' AtR AtR) (Tab.st hT hw')) (fun qt _ => ?_)
  repeat' (first | ((apply T.ev_; exact rfl; apply Ev.loadW; exact rfl; exact AtR; exact rfl)) | ((refine TC.holdR 28 ?_)) | (refine W1 ?_) | (refine W2 (fun hc => ?_) (fun hc => ?_)) | (intro _))
  rename_i vq
  refine ⟨?_⟩
  have e10 : (true && decide (ab = ab)) = true := by simp
  apply TC.seq
  refine TC.lexT [] (.seg [0, 1, 2, 3, 4, 5, 6, 7, 8, 9, 10, 11] .fin) mixed (by kernel_rfl) (TT.seg rfl ?_)
  repeat' (first | ((apply TX.tree)) | ((apply TT.fin)) | ((apply TL.quiet; exact rfl; exact rfl; exact St.base IncB; apply Ev.loadW; exact rfl; exact AtR; exact rfl)) | ((apply TL.keep; exact rfl; exact rfl; exact St.base IncB; (apply Ac.lit2; exact rfl; exact rfl; exact rfl; exact rfl; exact rfl; exact rfl; exact rfl); exact fun _ => St.base IncB)) | ((apply TL.kcallR (f := 84); exact rfl; (intro w' hw'; exact ta w'); exact rfl; exact rfl; exact St.base IncB)) | ((apply TL.kcallR (f := 84); exact rfl; (intro w' hw'; exact tb w'); exact rfl; exact rfl; exact St.base IncB)) | ((apply TL.kcallR (f := 83) (vs := [.int .u8 4, _]); exact rfl; (intro w' hw'; exact of5_sm (l := [a, b]) dc rfl seqN0_wf (by simp) (l2 w_a w_b) _ w' (RTrees.of rfl hw' (by first | exact .here | exact .there .here | exact .there (.there .here) | exact .there (.there (.there .here))) (All2.more (St.get_treeN hw' AtR).c (All2.more (St.get_treeN hw' AtR).c .nil))) (Tab.st hT hw')); exact rfl; exact rfl; exact St.base IncB)) | ((apply TL.kcallV (f := 56); exact rfl; (intro w' hw'; exact is5_any _ _ _ _ _ w' (St.get_treeN hw' AtR) (St.get_treeN hw' AtR) (by assumption) (by assumption)); exact rfl; exact rfl; exact St.base IncB)) | ((apply TL.kcallV (f := 76); exact rfl; (intro w' hw'; exact enormal_any _ turnT w' (hR3 hw' AtR AtR) wtn (Tab.st hT hw')); exact rfl; exact rfl; exact St.base IncB)) | (refine W1 ?_) | (refine W2 (fun hc => ?_) (fun hc => ?_)) | (intro _))
  exact TX.ret_tmp rfl rfl (fun w' hw => RetV.eq hw (congrArg Value.bool nd))
set_option maxHeartbeats 16000000 in
set_option maxRecDepth 20000 in
theorem names22 {em a b x y s1 c1 s2 c2 s3 deep c3 s4 want c4 c5 ab : Tre} {E1 E2 E3 E4 E5 E6 E7 E8 E9 Ea Eb Ec Ed Ee Z : Tre × Bool} (hN : Nm em a b x y s1 c1 s2 c2 s3 deep c3 s4 want c4 c5 ab E1 E2 E3 E4 E5 E6 E7 E8 E9 Ea Eb Ec Ed Ee Z)
    (ta : ∀ w', Calls Tryd.prog 84 #[.string ⟨#[97]⟩] w' (RetT w' a)) (tb : ∀ w', Calls Tryd.prog 84 #[.string ⟨#[98]⟩] w' (RetT w' b)) (te : ∀ w', Calls Tryd.prog 23 #[] w' (RetT w' em))
    (w : World) (hT : Tab w) (v1 v2 v3 : Nat) (p1 p2 : Option Addr × Nat) (vdp : Nat) (qdp : Option Addr × Nat) :
    TC Tryd.prog (tlC 20 (Tryd.f14.body.getD .skip)) (bodyPost Tryd.prog Tryd.f14 (RetV w (.bool true))) ⟨287, []⟩ [(32, .pointer (some ⟨vdp, 0, none⟩)), (1, .pointer (some ⟨v1, 0, none⟩)), (2, .pointer (some ⟨v2, 0, none⟩)), (3, .pointer (some ⟨v3, 0, none⟩))] (St w [blk vdp [.slice qdp.1 deep.nodes.length qdp.2, .int .i64 deep.root] 24, hNodes (.slice qdp.1 deep.nodes.length qdp.2) deep.nodes, blk v1 [.slice p1.1 x.nodes.length p1.2, .int .i64 x.root] 24, hNodes (.slice p1.1 x.nodes.length p1.2) x.nodes, blk v2 [.slice p2.1 y.nodes.length p2.2, .int .i64 y.root] 24, hNodes (.slice p2.1 y.nodes.length p2.2) y.nodes]) := by
  have hN0 := hN
  obtain ⟨d1, d2, d3, d4, d5, d6, d7, d8, d9, da, db, dc, q1, q2, q3, q4, q5, q6, q7, q8, q9, qa, qb, qc, qd, qe, qz, qt, ⟨f1, f2, f3, f4, f5, f6, f7, f8, f9, fa, fb, fc, fd, fe⟩, hz, n1, n2, n3, n4, n5, n6, n7, n8, n9, na, nb, nc, nd, hwf⟩ := hN
  have w_em := hwf em (by simp)
  have w_a := hwf a (by simp)
  have w_b := hwf b (by simp)
  have w_x := hwf x (by simp)
  have w_y := hwf y (by simp)
  have w_s1 := hwf s1 (by simp)
  have w_c1 := hwf c1 (by simp)
  have w_s2 := hwf s2 (by simp)
  have w_c2 := hwf c2 (by simp)
  have w_s3 := hwf s3 (by simp)
  have w_dp := hwf deep (by simp)
  have w_c3 := hwf c3 (by simp)
  have w_s4 := hwf s4 (by simp)
  have w_wt := hwf want (by simp)
  have w_c4 := hwf c4 (by simp)
  have w_c5 := hwf c5 (by simp)
  have w_ab := hwf ab (by simp)
  have w_bd := hwf badS (by simp)
  have w_tn := hwf turnT (by simp)
  have w_ze := hwf Tre.zero (by simp)
  clear hwf
  have l1 : ∀ {p : Tre → Prop} {s : Tre}, p s → ∀ t ∈ [s], p t := fun h t ht => by simp at ht; subst ht; exact h
  have l2 : ∀ {p : Tre → Prop} {s r : Tre}, p s → p r → ∀ t ∈ [s, r], p t := fun h1 h2 t ht => by simp at ht; rcases ht with rfl | rfl <;> assumption
  have l3 : ∀ {p : Tre → Prop} {s r q : Tre}, p s → p r → p q → ∀ t ∈ [s, r, q], p t := fun h1 h2 h3 t ht => by simp at ht; rcases ht with rfl | rfl | rfl <;> assumption
  subst hz
  have hbl : badS.nodes.length < bigN := by decide +kernel
  refine TC.cutA (ι := Nat × (Option Addr × Nat)) (fun k r => (33, .pointer (some ⟨k.1, 0, none⟩)) :: r) (fun k => St w [blk k.1 [.slice k.2.1 want.nodes.length k.2.2, .int .i64 want.root] 24, hNodes (.slice k.2.1 want.nodes.length k.2.2) want.nodes, blk vdp [.slice qdp.1 deep.nodes.length qdp.2, .int .i64 deep.root] 24, hNodes (.slice qdp.1 deep.nodes.length qdp.2) deep.nodes, blk v1 [.slice p1.1 x.nodes.length p1.2, .int .i64 x.root] 24, hNodes (.slice p1.1 x.nodes.length p1.2) x.nodes, blk v2 [.slice p2.1 y.nodes.length p2.2, .int .i64 y.root] 24, hNodes (.slice p2.1 y.nodes.length p2.2) y.nodes]) KpA (TC.lexT [] (.seg [0, 1, 2] (.both (.seg [3] (.both (.seg [4] (.both (.seg [5] (.both (.seg [6] (.both (.seg [7] (.both (.seg [8] (.both (.seg [9, 10, 11] .fin) (.seg [10, 9, 11] .fin))) (.seg [10, 8, 9, 11] .fin))) (.seg [10, 7, 8, 9, 11] .fin))) (.seg [10, 6, 7, 8, 9, 11] .fin))) (.seg [10, 5, 6, 7, 8, 9, 11] .fin))) (.seg [10, 4, 5, 6, 7, 8, 9, 11] .fin))) (.seg [10, 3, 4, 5, 6, 7, 8, 9, 11] .fin))) mixed (by kernel_rfl) (TT.seg rfl ?_)) (fun k => ?_)
  · repeat' (first | ((apply TX.tree)) | ((apply TT.both)) | ((apply TT.seg; exact rfl)) | ((apply TT.fin)) | ((apply TL.kcallR (d := 209) (f := 23); exact rfl; (intro w' hw'; exact te w'); exact rfl; exact rfl; exact St.base IncB)) | ((apply TL.keep (d := 210); exact rfl; exact rfl; exact St.base IncB; (apply Ac.lit3; exact rfl; exact rfl; exact rfl; exact rfl; exact rfl; exact rfl; exact rfl; exact rfl; exact rfl; exact rfl); exact fun _ => St.base IncB)) | ((apply TL.keep (d := 212); exact rfl; exact rfl; exact St.base IncB; (apply Ac.lit2; exact rfl; exact rfl; exact rfl; exact rfl; exact rfl; exact rfl; exact rfl); exact fun _ => St.base IncB)) | ((apply TL.keep (d := 214); exact rfl; exact rfl; exact St.base IncB; (apply Ac.lit1; exact rfl; exact rfl; exact rfl; exact rfl); exact fun _ => St.base IncB)) | ((apply TL.keep (d := 33); exact rfl; exact rfl; exact St.base IncB; exact Ac.alloc rfl; exact fun _ => St.base IncB)) | ((apply TL.kcallR (d := 211) (f := 83) (vs := [.int .u8 5, _]); exact rfl; (intro w' hw'; exact of5_sm (l := [x, y, em]) d7 rfl choN0_wf (by simp) (l3 w_x w_y w_em) _ w' (RTrees.of rfl hw' (by first | exact .here | exact .there .here | exact .there (.there .here) | exact .there (.there (.there .here))) (All2.more (St.get_treeN hw' AtR).c (All2.more (St.get_treeN hw' AtR).c (All2.more (St.get_treeN hw' AtR).c .nil)))) (Tab.st hT hw')); exact rfl; exact rfl; exact St.base IncB)) | ((apply TL.kcallR (d := 213) (f := 83) (vs := [.int .u8 4, _]); exact rfl; (intro w' hw'; exact of5_sm (l := [x, c3]) d8 rfl seqN0_wf (by simp) (l2 w_x w_c3) _ w' (RTrees.of rfl hw' (by first | exact .here | exact .there .here | exact .there (.there .here) | exact .there (.there (.there .here))) (All2.more (St.get_treeN hw' AtR).c (All2.more (St.get_treeN hw' AtR).c .nil))) (Tab.st hT hw')); exact rfl; exact rfl; exact St.base IncB)) | ((apply TL.kcallR (d := 215) (f := 83) (vs := [.int .u8 8, _]); exact rfl; (intro w' hw'; exact of5_sm (l := [s4]) d9 rfl notN0_wf (by simp) (l1 w_s4) _ w' (RTrees.of rfl hw' (by first | exact .here | exact .there .here | exact .there (.there .here) | exact .there (.there (.there .here))) (All2.more (St.get_treeN hw' AtR).c .nil)) (Tab.st hT hw')); exact rfl; exact rfl; exact St.base IncB)) | (refine W1 ?_) | (refine W2 (fun hc => ?_) (fun hc => ?_)) | (intro _))
    all_goals (apply TX.join (_, _); exact SubA; exact fun w' hw => St.inc IncQ hw)
  exact names23 hN0 ta tb te w hT v1 v2 v3 p1 p2 vdp k.1 qdp k.2
set_option maxHeartbeats 16000000 in
set_option maxRecDepth 20000 in
theorem names21 {em a b x y s1 c1 s2 c2 s3 deep c3 s4 want c4 c5 ab : Tre} {E1 E2 E3 E4 E5 E6 E7 E8 E9 Ea Eb Ec Ed Ee Z : Tre × Bool} (hN : Nm em a b x y s1 c1 s2 c2 s3 deep c3 s4 want c4 c5 ab E1 E2 E3 E4 E5 E6 E7 E8 E9 Ea Eb Ec Ed Ee Z)
    (ta : ∀ w', Calls Tryd.prog 84 #[.string ⟨#[97]⟩] w' (RetT w' a)) (tb : ∀ w', Calls Tryd.prog 84 #[.string ⟨#[98]⟩] w' (RetT w' b)) (te : ∀ w', Calls Tryd.prog 23 #[] w' (RetT w' em))
    (w : World) (hT : Tab w) (v1 v2 v3 : Nat) (p1 p2 : Option Addr × Nat) :
    TC Tryd.prog (tlC 19 (Tryd.f14.body.getD .skip)) (bodyPost Tryd.prog Tryd.f14 (RetV w (.bool true))) ⟨287, []⟩ [(1, .pointer (some ⟨v1, 0, none⟩)), (2, .pointer (some ⟨v2, 0, none⟩)), (3, .pointer (some ⟨v3, 0, none⟩))] (St w [blk v1 [.slice p1.1 x.nodes.length p1.2, .int .i64 x.root] 24, hNodes (.slice p1.1 x.nodes.length p1.2) x.nodes, blk v2 [.slice p2.1 y.nodes.length p2.2, .int .i64 y.root] 24, hNodes (.slice p2.1 y.nodes.length p2.2) y.nodes]) := by
  have hN0 := hN
  obtain ⟨d1, d2, d3, d4, d5, d6, d7, d8, d9, da, db, dc, q1, q2, q3, q4, q5, q6, q7, q8, q9, qa, qb, qc, qd, qe, qz, qt, ⟨f1, f2, f3, f4, f5, f6, f7, f8, f9, fa, fb, fc, fd, fe⟩, hz, n1, n2, n3, n4, n5, n6, n7, n8, n9, na, nb, nc, nd, hwf⟩ := hN
  have w_em := hwf em (by simp)
  have w_a := hwf a (by simp)
  have w_b := hwf b (by simp)
  have w_x := hwf x (by simp)
  have w_y := hwf y (by simp)
  have w_s1 := hwf s1 (by simp)
  have w_c1 := hwf c1 (by simp)
  have w_s2 := hwf s2 (by simp)
  have w_c2 := hwf c2 (by simp)
  have w_s3 := hwf s3 (by simp)
  have w_dp := hwf deep (by simp)
  have w_c3 := hwf c3 (by simp)
  have w_s4 := hwf s4 (by simp)
  have w_wt := hwf want (by simp)
  have w_c4 := hwf c4 (by simp)
  have w_c5 := hwf c5 (by simp)
  have w_ab := hwf ab (by simp)
  have w_bd := hwf badS (by simp)
  have w_tn := hwf turnT (by simp)
  have w_ze := hwf Tre.zero (by simp)
  clear hwf
  have l1 : ∀ {p : Tre → Prop} {s : Tre}, p s → ∀ t ∈ [s], p t := fun h t ht => by simp at ht; subst ht; exact h
  have l2 : ∀ {p : Tre → Prop} {s r : Tre}, p s → p r → ∀ t ∈ [s, r], p t := fun h1 h2 t ht => by simp at ht; rcases ht with rfl | rfl <;> assumption
  have l3 : ∀ {p : Tre → Prop} {s r q : Tre}, p s → p r → p q → ∀ t ∈ [s, r, q], p t := fun h1 h2 h3 t ht => by simp at ht; rcases ht with rfl | rfl | rfl <;> assumption
  subst hz
  have hbl : badS.nodes.length < bigN := by decide +kernel
  refine TC.cutA (ι := Nat × (Option Addr × Nat)) (fun k r => (32, .pointer (some ⟨k.1, 0, none⟩)) :: r) (fun k => St w [blk k.1 [.slice k.2.1 deep.nodes.length k.2.2, .int .i64 deep.root] 24, hNodes (.slice k.2.1 deep.nodes.length k.2.2) deep.nodes, blk v1 [.slice p1.1 x.nodes.length p1.2, .int .i64 x.root] 24, hNodes (.slice p1.1 x.nodes.length p1.2) x.nodes, blk v2 [.slice p2.1 y.nodes.length p2.2, .int .i64 y.root] 24, hNodes (.slice p2.1 y.nodes.length p2.2) y.nodes]) KpA (TC.lexT [] (.seg [0, 4, 5] (.both (.seg [1] (.both (.seg [2] (.both (.seg [3] (.both (.seg [6] (.both (.seg [7] (.both (.seg [8] (.both (.seg [9] (.both (.seg [10] (.both (.seg [11] (.both (.seg [12] (.both (.seg [13] (.both (.seg [14] (.both (.seg [15] (.both (.seg [16] (.both (.seg [17, 18, 19] .fin) (.seg [18, 17, 19] .fin))) (.seg [18, 16, 17, 19] .fin))) (.seg [18, 15, 16, 17, 19] .fin))) (.seg [18, 14, 15, 16, 17, 19] .fin))) (.seg [18, 13, 14, 15, 16, 17, 19] .fin))) (.seg [18, 12, 13, 14, 15, 16, 17, 19] .fin))) (.seg [18, 11, 12, 13, 14, 15, 16, 17, 19] .fin))) (.seg [18, 10, 11, 12, 13, 14, 15, 16, 17, 19] .fin))) (.seg [18, 9, 10, 11, 12, 13, 14, 15, 16, 17, 19] .fin))) (.seg [18, 8, 9, 10, 11, 12, 13, 14, 15, 16, 17, 19] .fin))) (.seg [18, 7, 8, 9, 10, 11, 12, 13, 14, 15, 16, 17, 19] .fin))) (.seg [18, 6, 7, 8, 9, 10, 11, 12, 13, 14, 15, 16, 17, 19] .fin))) (.both (.seg [6] (.both (.seg [3] (.both (.seg [7] (.both (.seg [8] (.both (.seg [9] (.both (.seg [10] (.both (.seg [11] (.both (.seg [12] (.both (.seg [13] (.both (.seg [14] (.both (.seg [15] (.both (.seg [16] (.both (.seg [17, 18, 19] .fin) (.seg [18, 17, 19] .fin))) (.seg [18, 16, 17, 19] .fin))) (.seg [18, 15, 16, 17, 19] .fin))) (.seg [18, 14, 15, 16, 17, 19] .fin))) (.seg [18, 13, 14, 15, 16, 17, 19] .fin))) (.seg [18, 12, 13, 14, 15, 16, 17, 19] .fin))) (.seg [18, 11, 12, 13, 14, 15, 16, 17, 19] .fin))) (.seg [18, 10, 11, 12, 13, 14, 15, 16, 17, 19] .fin))) (.seg [18, 9, 10, 11, 12, 13, 14, 15, 16, 17, 19] .fin))) (.seg [18, 8, 9, 10, 11, 12, 13, 14, 15, 16, 17, 19] .fin))) (.seg [18, 7, 8, 9, 10, 11, 12, 13, 14, 15, 16, 17, 19] .fin))) (.seg [18, 3, 7, 8, 9, 10, 11, 12, 13, 14, 15, 16, 17, 19] .fin))) (.seg [18] (.both (.seg [3, 6, 7, 8, 9, 10, 11, 12, 13, 14, 15, 16, 17, 19] .fin) (.seg [6, 3, 7, 8, 9, 10, 11, 12, 13, 14, 15, 16, 17, 19] .fin)))))) (.both (.seg [6] (.both (.seg [2] (.both (.seg [3] (.both (.seg [7] (.both (.seg [8] (.both (.seg [9] (.both (.seg [10] (.both (.seg [11] (.both (.seg [12] (.both (.seg [13] (.both (.seg [14] (.both (.seg [15] (.both (.seg [16] (.both (.seg [17, 18, 19] .fin) (.seg [18, 17, 19] .fin))) (.seg [18, 16, 17, 19] .fin))) (.seg [18, 15, 16, 17, 19] .fin))) (.seg [18, 14, 15, 16, 17, 19] .fin))) (.seg [18, 13, 14, 15, 16, 17, 19] .fin))) (.seg [18, 12, 13, 14, 15, 16, 17, 19] .fin))) (.seg [18, 11, 12, 13, 14, 15, 16, 17, 19] .fin))) (.seg [18, 10, 11, 12, 13, 14, 15, 16, 17, 19] .fin))) (.seg [18, 9, 10, 11, 12, 13, 14, 15, 16, 17, 19] .fin))) (.seg [18, 8, 9, 10, 11, 12, 13, 14, 15, 16, 17, 19] .fin))) (.seg [18, 7, 8, 9, 10, 11, 12, 13, 14, 15, 16, 17, 19] .fin))) (.seg [18, 3, 7, 8, 9, 10, 11, 12, 13, 14, 15, 16, 17, 19] .fin))) (.seg [18, 2, 3, 7, 8, 9, 10, 11, 12, 13, 14, 15, 16, 17, 19] .fin))) (.seg [18] (.both (.seg [2] (.both (.seg [3, 6, 7, 8, 9, 10, 11, 12, 13, 14, 15, 16, 17, 19] .fin) (.seg [6, 3, 7, 8, 9, 10, 11, 12, 13, 14, 15, 16, 17, 19] .fin))) (.seg [6, 2, 3, 7, 8, 9, 10, 11, 12, 13, 14, 15, 16, 17, 19] .fin)))))) (.both (.seg [6] (.both (.seg [1] (.both (.seg [2] (.both (.seg [3] (.both (.seg [7] (.both (.seg [8] (.both (.seg [9] (.both (.seg [10] (.both (.seg [11] (.both (.seg [12] (.both (.seg [13] (.both (.seg [14] (.both (.seg [15] (.both (.seg [16] (.both (.seg [17, 18, 19] .fin) (.seg [18, 17, 19] .fin))) (.seg [18, 16, 17, 19] .fin))) (.seg [18, 15, 16, 17, 19] .fin))) (.seg [18, 14, 15, 16, 17, 19] .fin))) (.seg [18, 13, 14, 15, 16, 17, 19] .fin))) (.seg [18, 12, 13, 14, 15, 16, 17, 19] .fin))) (.seg [18, 11, 12, 13, 14, 15, 16, 17, 19] .fin))) (.seg [18, 10, 11, 12, 13, 14, 15, 16, 17, 19] .fin))) (.seg [18, 9, 10, 11, 12, 13, 14, 15, 16, 17, 19] .fin))) (.seg [18, 8, 9, 10, 11, 12, 13, 14, 15, 16, 17, 19] .fin))) (.seg [18, 7, 8, 9, 10, 11, 12, 13, 14, 15, 16, 17, 19] .fin))) (.seg [18, 3, 7, 8, 9, 10, 11, 12, 13, 14, 15, 16, 17, 19] .fin))) (.seg [18, 2, 3, 7, 8, 9, 10, 11, 12, 13, 14, 15, 16, 17, 19] .fin))) (.seg [18, 1, 2, 3, 7, 8, 9, 10, 11, 12, 13, 14, 15, 16, 17, 19] .fin))) (.seg [18] (.both (.seg [1] (.both (.seg [2] (.both (.seg [3, 6, 7, 8, 9, 10, 11, 12, 13, 14, 15, 16, 17, 19] .fin) (.seg [6, 3, 7, 8, 9, 10, 11, 12, 13, 14, 15, 16, 17, 19] .fin))) (.seg [6, 2, 3, 7, 8, 9, 10, 11, 12, 13, 14, 15, 16, 17, 19] .fin))) (.seg [6, 1, 2, 3, 7, 8, 9, 10, 11, 12, 13, 14, 15, 16, 17, 19] .fin)))))) mixed (by kernel_rfl) ?_) (fun k => ?_)
  · refine TT.abs (fun F hto hfrom => ?_)
    have hA7 : ∀ (v B2 : Nat) (q : Option Addr × Nat), F (.seg [7, 8, 9, 10, 11, 12, 13, 14, 15, 16, 17, 19] .fin) [(32, .pointer (some ⟨v, 0, none⟩)), (191, .agg #[.slice q.1 s1.nodes.length q.2, .int .i64 s1.root]), (194, .slice (some ⟨B2, 0, none⟩) 2 2), (1, .pointer (some ⟨v1, 0, none⟩)), (2, .pointer (some ⟨v2, 0, none⟩)), (3, .pointer (some ⟨v3, 0, none⟩))] (St w [blk v [.slice none 0 0, .int .i64 0] 24, own 24 2 (some ⟨B2, 0, none⟩) 2 2 [(Value.agg #[.slice p1.1 x.nodes.length p1.2, .int .i64 x.root]).cells.toList, (Value.agg #[.slice p2.1 y.nodes.length p2.2, .int .i64 y.root]).cells.toList], hNodes (.slice q.1 s1.nodes.length q.2) s1.nodes, blk v1 [.slice p1.1 x.nodes.length p1.2, .int .i64 x.root] 24, hNodes (.slice p1.1 x.nodes.length p1.2) x.nodes, blk v2 [.slice p2.1 y.nodes.length p2.2, .int .i64 y.root] 24, hNodes (.slice p2.1 y.nodes.length p2.2) y.nodes]) := by
      intro v B2 q
      apply hfrom
      repeat' (first | ((apply TX.tree)) | ((apply TT.both)) | ((apply TT.seg; exact rfl)) | ((apply TT.fin)) | ((apply TL.kcallR (d := 189) (f := 23); exact rfl; (intro w' hw'; exact te w'); exact rfl; exact rfl; exact St.base IncB)) | ((apply TL.kcallR (d := 196) (f := 23); exact rfl; (intro w' hw'; exact te w'); exact rfl; exact rfl; exact St.base IncB)) | ((apply TL.kcallR (d := 197) (f := 23); exact rfl; (intro w' hw'; exact te w'); exact rfl; exact rfl; exact St.base IncB)) | ((apply TL.keep (d := 190); exact rfl; exact rfl; exact St.base IncB; (apply Ac.lit2; exact rfl; exact rfl; exact rfl; exact rfl; exact rfl; exact rfl; exact rfl); exact fun _ => St.base IncB)) | ((apply TL.keep (d := 194); exact rfl; exact rfl; exact St.base IncB; (apply Ac.lit2; exact rfl; exact rfl; exact rfl; exact rfl; exact rfl; exact rfl; exact rfl); exact fun _ => St.base IncB)) | ((apply TL.keep (d := 198); exact rfl; exact rfl; exact St.base IncB; (apply Ac.lit2; exact rfl; exact rfl; exact rfl; exact rfl; exact rfl; exact rfl; exact rfl); exact fun _ => St.base IncB)) | ((apply TL.keep (d := 200); exact rfl; exact rfl; exact St.base IncB; (apply Ac.lit2; exact rfl; exact rfl; exact rfl; exact rfl; exact rfl; exact rfl; exact rfl); exact fun _ => St.base IncB)) | ((apply TL.keep (d := 202); exact rfl; exact rfl; exact St.base IncB; (apply Ac.lit2; exact rfl; exact rfl; exact rfl; exact rfl; exact rfl; exact rfl; exact rfl); exact fun _ => St.base IncB)) | ((apply TL.keep (d := 204); exact rfl; exact rfl; exact St.base IncB; (apply Ac.lit1; exact rfl; exact rfl; exact rfl; exact rfl); exact fun _ => St.base IncB)) | ((apply TL.keep (d := 32); exact rfl; exact rfl; exact St.base IncB; exact Ac.alloc rfl; exact fun _ => St.base IncB)) | ((apply TL.kcallR (d := 191) (f := 83) (vs := [.int .u8 4, _]); exact rfl; (intro w' hw'; exact of5_sm (l := [x, em]) d1 rfl seqN0_wf (by simp) (l2 w_x w_em) _ w' (RTrees.of rfl hw' (by first | exact .here | exact .there .here | exact .there (.there .here) | exact .there (.there (.there .here))) (All2.more (St.get_treeN hw' AtR).c (All2.more (St.get_treeN hw' AtR).c .nil))) (Tab.st hT hw')); exact rfl; exact rfl; exact St.base IncB)) | ((apply TL.kcallR (d := 195) (f := 83) (vs := [.int .u8 5, _]); exact rfl; (intro w' hw'; exact of5_sm (l := [x, y]) d2 rfl choN0_wf (by simp) (l2 w_x w_y) _ w' (RTrees.of rfl hw' (by first | exact .here | exact .there .here | exact .there (.there .here) | exact .there (.there (.there .here))) (All2.more (St.get_treeN hw' AtR).c (All2.more (St.get_treeN hw' AtR).c .nil))) (Tab.st hT hw')); exact rfl; exact rfl; exact St.base IncB)) | ((apply TL.kcallR (d := 199) (f := 83) (vs := [.int .u8 4, _]); exact rfl; (intro w' hw'; exact of5_sm (l := [em, em]) d3 rfl seqN0_wf (by simp) (l2 w_em w_em) _ w' (RTrees.of rfl hw' (by first | exact .here | exact .there .here | exact .there (.there .here) | exact .there (.there (.there .here))) (All2.more (St.get_treeN hw' AtR).c (All2.more (St.get_treeN hw' AtR).c .nil))) (Tab.st hT hw')); exact rfl; exact rfl; exact St.base IncB)) | ((apply TL.kcallR (d := 201) (f := 83) (vs := [.int .u8 5, _]); exact rfl; (intro w' hw'; exact of5_sm (l := [c1, s2]) d4 rfl choN0_wf (by simp) (l2 w_c1 w_s2) _ w' (RTrees.of rfl hw' (by first | exact .here | exact .there .here | exact .there (.there .here) | exact .there (.there (.there .here))) (All2.more (St.get_treeN hw' AtR).c (All2.more (St.get_treeN hw' AtR).c .nil))) (Tab.st hT hw')); exact rfl; exact rfl; exact St.base IncB)) | ((apply TL.kcallR (d := 203) (f := 83) (vs := [.int .u8 4, _]); exact rfl; (intro w' hw'; exact of5_sm (l := [s1, c2]) d5 rfl seqN0_wf (by simp) (l2 w_s1 w_c2) _ w' (RTrees.of rfl hw' (by first | exact .here | exact .there .here | exact .there (.there .here) | exact .there (.there (.there .here))) (All2.more (St.get_treeN hw' AtR).c (All2.more (St.get_treeN hw' AtR).c .nil))) (Tab.st hT hw')); exact rfl; exact rfl; exact St.base IncB)) | ((apply TL.kcallR (d := 205) (f := 83) (vs := [.int .u8 8, _]); exact rfl; (intro w' hw'; exact of5_sm (l := [s3]) d6 rfl notN0_wf (by simp) (l1 w_s3) _ w' (RTrees.of rfl hw' (by first | exact .here | exact .there .here | exact .there (.there .here) | exact .there (.there (.there .here))) (All2.more (St.get_treeN hw' AtR).c .nil)) (Tab.st hT hw')); exact rfl; exact rfl; exact St.base IncB)) | (refine W1 ?_) | (refine W2 (fun hc => ?_) (fun hc => ?_)) | (intro _))
      all_goals (apply TX.join (_, _); exact SubA; exact fun w' hw => St.inc IncQ hw)
    have hS7 : ∀ (B2 : Nat) (q : Option Addr × Nat), F (.both (.seg [7] (.both (.seg [8] (.both (.seg [9] (.both (.seg [10] (.both (.seg [11] (.both (.seg [12] (.both (.seg [13] (.both (.seg [14] (.both (.seg [15] (.both (.seg [16] (.both (.seg [17, 18, 19] .fin) (.seg [18, 17, 19] .fin))) (.seg [18, 16, 17, 19] .fin))) (.seg [18, 15, 16, 17, 19] .fin))) (.seg [18, 14, 15, 16, 17, 19] .fin))) (.seg [18, 13, 14, 15, 16, 17, 19] .fin))) (.seg [18, 12, 13, 14, 15, 16, 17, 19] .fin))) (.seg [18, 11, 12, 13, 14, 15, 16, 17, 19] .fin))) (.seg [18, 10, 11, 12, 13, 14, 15, 16, 17, 19] .fin))) (.seg [18, 9, 10, 11, 12, 13, 14, 15, 16, 17, 19] .fin))) (.seg [18, 8, 9, 10, 11, 12, 13, 14, 15, 16, 17, 19] .fin))) (.seg [18, 7, 8, 9, 10, 11, 12, 13, 14, 15, 16, 17, 19] .fin)) [(191, .agg #[.slice q.1 s1.nodes.length q.2, .int .i64 s1.root]), (194, .slice (some ⟨B2, 0, none⟩) 2 2), (1, .pointer (some ⟨v1, 0, none⟩)), (2, .pointer (some ⟨v2, 0, none⟩)), (3, .pointer (some ⟨v3, 0, none⟩))] (St w [own 24 2 (some ⟨B2, 0, none⟩) 2 2 [(Value.agg #[.slice p1.1 x.nodes.length p1.2, .int .i64 x.root]).cells.toList, (Value.agg #[.slice p2.1 y.nodes.length p2.2, .int .i64 y.root]).cells.toList], hNodes (.slice q.1 s1.nodes.length q.2) s1.nodes, blk v1 [.slice p1.1 x.nodes.length p1.2, .int .i64 x.root] 24, hNodes (.slice p1.1 x.nodes.length p1.2) x.nodes, blk v2 [.slice p2.1 y.nodes.length p2.2, .int .i64 y.root] 24, hNodes (.slice p2.1 y.nodes.length p2.2) y.nodes]) := by
      intro B2 q
      apply hfrom
      repeat' (first | ((apply TT.few (hto _ _ _ (hA7 _ _ _)); exact SubA; exact fun w' hw => St.inc IncQ hw)) | ((apply TX.tree)) | ((apply TT.both)) | ((apply TT.seg; exact rfl)) | ((apply TT.fin)) | ((apply TL.kcallR (d := 189) (f := 23); exact rfl; (intro w' hw'; exact te w'); exact rfl; exact rfl; exact St.base IncB)) | ((apply TL.kcallR (d := 196) (f := 23); exact rfl; (intro w' hw'; exact te w'); exact rfl; exact rfl; exact St.base IncB)) | ((apply TL.kcallR (d := 197) (f := 23); exact rfl; (intro w' hw'; exact te w'); exact rfl; exact rfl; exact St.base IncB)) | ((apply TL.keep (d := 190); exact rfl; exact rfl; exact St.base IncB; (apply Ac.lit2; exact rfl; exact rfl; exact rfl; exact rfl; exact rfl; exact rfl; exact rfl); exact fun _ => St.base IncB)) | ((apply TL.keep (d := 194); exact rfl; exact rfl; exact St.base IncB; (apply Ac.lit2; exact rfl; exact rfl; exact rfl; exact rfl; exact rfl; exact rfl; exact rfl); exact fun _ => St.base IncB)) | ((apply TL.keep (d := 198); exact rfl; exact rfl; exact St.base IncB; (apply Ac.lit2; exact rfl; exact rfl; exact rfl; exact rfl; exact rfl; exact rfl; exact rfl); exact fun _ => St.base IncB)) | ((apply TL.keep (d := 200); exact rfl; exact rfl; exact St.base IncB; (apply Ac.lit2; exact rfl; exact rfl; exact rfl; exact rfl; exact rfl; exact rfl; exact rfl); exact fun _ => St.base IncB)) | ((apply TL.keep (d := 202); exact rfl; exact rfl; exact St.base IncB; (apply Ac.lit2; exact rfl; exact rfl; exact rfl; exact rfl; exact rfl; exact rfl; exact rfl); exact fun _ => St.base IncB)) | ((apply TL.keep (d := 204); exact rfl; exact rfl; exact St.base IncB; (apply Ac.lit1; exact rfl; exact rfl; exact rfl; exact rfl); exact fun _ => St.base IncB)) | ((apply TL.keep (d := 32); exact rfl; exact rfl; exact St.base IncB; exact Ac.alloc rfl; exact fun _ => St.base IncB)) | ((apply TL.kcallR (d := 191) (f := 83) (vs := [.int .u8 4, _]); exact rfl; (intro w' hw'; exact of5_sm (l := [x, em]) d1 rfl seqN0_wf (by simp) (l2 w_x w_em) _ w' (RTrees.of rfl hw' (by first | exact .here | exact .there .here | exact .there (.there .here) | exact .there (.there (.there .here))) (All2.more (St.get_treeN hw' AtR).c (All2.more (St.get_treeN hw' AtR).c .nil))) (Tab.st hT hw')); exact rfl; exact rfl; exact St.base IncB)) | ((apply TL.kcallR (d := 195) (f := 83) (vs := [.int .u8 5, _]); exact rfl; (intro w' hw'; exact of5_sm (l := [x, y]) d2 rfl choN0_wf (by simp) (l2 w_x w_y) _ w' (RTrees.of rfl hw' (by first | exact .here | exact .there .here | exact .there (.there .here) | exact .there (.there (.there .here))) (All2.more (St.get_treeN hw' AtR).c (All2.more (St.get_treeN hw' AtR).c .nil))) (Tab.st hT hw')); exact rfl; exact rfl; exact St.base IncB)) | ((apply TL.kcallR (d := 199) (f := 83) (vs := [.int .u8 4, _]); exact rfl; (intro w' hw'; exact of5_sm (l := [em, em]) d3 rfl seqN0_wf (by simp) (l2 w_em w_em) _ w' (RTrees.of rfl hw' (by first | exact .here | exact .there .here | exact .there (.there .here) | exact .there (.there (.there .here))) (All2.more (St.get_treeN hw' AtR).c (All2.more (St.get_treeN hw' AtR).c .nil))) (Tab.st hT hw')); exact rfl; exact rfl; exact St.base IncB)) | ((apply TL.kcallR (d := 201) (f := 83) (vs := [.int .u8 5, _]); exact rfl; (intro w' hw'; exact of5_sm (l := [c1, s2]) d4 rfl choN0_wf (by simp) (l2 w_c1 w_s2) _ w' (RTrees.of rfl hw' (by first | exact .here | exact .there .here | exact .there (.there .here) | exact .there (.there (.there .here))) (All2.more (St.get_treeN hw' AtR).c (All2.more (St.get_treeN hw' AtR).c .nil))) (Tab.st hT hw')); exact rfl; exact rfl; exact St.base IncB)) | ((apply TL.kcallR (d := 203) (f := 83) (vs := [.int .u8 4, _]); exact rfl; (intro w' hw'; exact of5_sm (l := [s1, c2]) d5 rfl seqN0_wf (by simp) (l2 w_s1 w_c2) _ w' (RTrees.of rfl hw' (by first | exact .here | exact .there .here | exact .there (.there .here) | exact .there (.there (.there .here))) (All2.more (St.get_treeN hw' AtR).c (All2.more (St.get_treeN hw' AtR).c .nil))) (Tab.st hT hw')); exact rfl; exact rfl; exact St.base IncB)) | ((apply TL.kcallR (d := 205) (f := 83) (vs := [.int .u8 8, _]); exact rfl; (intro w' hw'; exact of5_sm (l := [s3]) d6 rfl notN0_wf (by simp) (l1 w_s3) _ w' (RTrees.of rfl hw' (by first | exact .here | exact .there .here | exact .there (.there .here) | exact .there (.there (.there .here))) (All2.more (St.get_treeN hw' AtR).c .nil)) (Tab.st hT hw')); exact rfl; exact rfl; exact St.base IncB)) | (refine W1 ?_) | (refine W2 (fun hc => ?_) (fun hc => ?_)) | (intro _))
      all_goals (apply TX.join (_, _); exact SubA; exact fun w' hw => St.inc IncQ hw)
    apply hfrom
    repeat' (first | ((apply TT.few (hto _ _ _ (hA7 _ _ _)); exact SubA; exact fun w' hw => St.inc IncQ hw)) | ((apply TT.few (hto _ _ _ (hS7 _ _)); exact SubA; exact fun w' hw => St.inc IncQ hw)) | ((refine TT.cut2 (r1 := [18, 1, 2, 3]) (r2 := [7, 8, 9, 10, 11, 12, 13, 14, 15, 16, 17, 19]) ?_)) | ((refine TT.cut2 (r1 := [18, 2, 3]) (r2 := [7, 8, 9, 10, 11, 12, 13, 14, 15, 16, 17, 19]) ?_)) | ((refine TT.cut2 (r1 := [18, 3]) (r2 := [7, 8, 9, 10, 11, 12, 13, 14, 15, 16, 17, 19]) ?_)) | ((refine TT.cut2 (r1 := [18, 6]) (r2 := [7, 8, 9, 10, 11, 12, 13, 14, 15, 16, 17, 19]) ?_)) | ((refine TT.cut2 (r1 := [18]) (r2 := [7, 8, 9, 10, 11, 12, 13, 14, 15, 16, 17, 19]) ?_)) | ((refine TT.cut2 (r1 := [3, 6]) (r2 := [7, 8, 9, 10, 11, 12, 13, 14, 15, 16, 17, 19]) ?_)) | ((refine TT.cut2 (r1 := [6, 1, 2, 3]) (r2 := [7, 8, 9, 10, 11, 12, 13, 14, 15, 16, 17, 19]) ?_)) | ((refine TT.cut2 (r1 := [6, 2, 3]) (r2 := [7, 8, 9, 10, 11, 12, 13, 14, 15, 16, 17, 19]) ?_)) | ((refine TT.cut2 (r1 := [6, 3]) (r2 := [7, 8, 9, 10, 11, 12, 13, 14, 15, 16, 17, 19]) ?_)) | ((apply TX.tree)) | ((apply TT.both)) | ((apply TT.seg; exact rfl)) | ((apply TT.fin)) | ((apply TL.kcallR (d := 189) (f := 23); exact rfl; (intro w' hw'; exact te w'); exact rfl; exact rfl; exact St.base IncB)) | ((apply TL.kcallR (d := 196) (f := 23); exact rfl; (intro w' hw'; exact te w'); exact rfl; exact rfl; exact St.base IncB)) | ((apply TL.kcallR (d := 197) (f := 23); exact rfl; (intro w' hw'; exact te w'); exact rfl; exact rfl; exact St.base IncB)) | ((apply TL.keep (d := 190); exact rfl; exact rfl; exact St.base IncB; (apply Ac.lit2; exact rfl; exact rfl; exact rfl; exact rfl; exact rfl; exact rfl; exact rfl); exact fun _ => St.base IncB)) | ((apply TL.keep (d := 194); exact rfl; exact rfl; exact St.base IncB; (apply Ac.lit2; exact rfl; exact rfl; exact rfl; exact rfl; exact rfl; exact rfl; exact rfl); exact fun _ => St.base IncB)) | ((apply TL.keep (d := 198); exact rfl; exact rfl; exact St.base IncB; (apply Ac.lit2; exact rfl; exact rfl; exact rfl; exact rfl; exact rfl; exact rfl; exact rfl); exact fun _ => St.base IncB)) | ((apply TL.keep (d := 200); exact rfl; exact rfl; exact St.base IncB; (apply Ac.lit2; exact rfl; exact rfl; exact rfl; exact rfl; exact rfl; exact rfl; exact rfl); exact fun _ => St.base IncB)) | ((apply TL.keep (d := 202); exact rfl; exact rfl; exact St.base IncB; (apply Ac.lit2; exact rfl; exact rfl; exact rfl; exact rfl; exact rfl; exact rfl; exact rfl); exact fun _ => St.base IncB)) | ((apply TL.keep (d := 204); exact rfl; exact rfl; exact St.base IncB; (apply Ac.lit1; exact rfl; exact rfl; exact rfl; exact rfl); exact fun _ => St.base IncB)) | ((apply TL.keep (d := 32); exact rfl; exact rfl; exact St.base IncB; exact Ac.alloc rfl; exact fun _ => St.base IncB)) | ((apply TL.kcallR (d := 191) (f := 83) (vs := [.int .u8 4, _]); exact rfl; (intro w' hw'; exact of5_sm (l := [x, em]) d1 rfl seqN0_wf (by simp) (l2 w_x w_em) _ w' (RTrees.of rfl hw' (by first | exact .here | exact .there .here | exact .there (.there .here) | exact .there (.there (.there .here))) (All2.more (St.get_treeN hw' AtR).c (All2.more (St.get_treeN hw' AtR).c .nil))) (Tab.st hT hw')); exact rfl; exact rfl; exact St.base IncB)) | ((apply TL.kcallR (d := 195) (f := 83) (vs := [.int .u8 5, _]); exact rfl; (intro w' hw'; exact of5_sm (l := [x, y]) d2 rfl choN0_wf (by simp) (l2 w_x w_y) _ w' (RTrees.of rfl hw' (by first | exact .here | exact .there .here | exact .there (.there .here) | exact .there (.there (.there .here))) (All2.more (St.get_treeN hw' AtR).c (All2.more (St.get_treeN hw' AtR).c .nil))) (Tab.st hT hw')); exact rfl; exact rfl; exact St.base IncB)) | ((apply TL.kcallR (d := 199) (f := 83) (vs := [.int .u8 4, _]); exact rfl; (intro w' hw'; exact of5_sm (l := [em, em]) d3 rfl seqN0_wf (by simp) (l2 w_em w_em) _ w' (RTrees.of rfl hw' (by first | exact .here | exact .there .here | exact .there (.there .here) | exact .there (.there (.there .here))) (All2.more (St.get_treeN hw' AtR).c (All2.more (St.get_treeN hw' AtR).c .nil))) (Tab.st hT hw')); exact rfl; exact rfl; exact St.base IncB)) | ((apply TL.kcallR (d := 201) (f := 83) (vs := [.int .u8 5, _]); exact rfl; (intro w' hw'; exact of5_sm (l := [c1, s2]) d4 rfl choN0_wf (by simp) (l2 w_c1 w_s2) _ w' (RTrees.of rfl hw' (by first | exact .here | exact .there .here | exact .there (.there .here) | exact .there (.there (.there .here))) (All2.more (St.get_treeN hw' AtR).c (All2.more (St.get_treeN hw' AtR).c .nil))) (Tab.st hT hw')); exact rfl; exact rfl; exact St.base IncB)) | ((apply TL.kcallR (d := 203) (f := 83) (vs := [.int .u8 4, _]); exact rfl; (intro w' hw'; exact of5_sm (l := [s1, c2]) d5 rfl seqN0_wf (by simp) (l2 w_s1 w_c2) _ w' (RTrees.of rfl hw' (by first | exact .here | exact .there .here | exact .there (.there .here) | exact .there (.there (.there .here))) (All2.more (St.get_treeN hw' AtR).c (All2.more (St.get_treeN hw' AtR).c .nil))) (Tab.st hT hw')); exact rfl; exact rfl; exact St.base IncB)) | ((apply TL.kcallR (d := 205) (f := 83) (vs := [.int .u8 8, _]); exact rfl; (intro w' hw'; exact of5_sm (l := [s3]) d6 rfl notN0_wf (by simp) (l1 w_s3) _ w' (RTrees.of rfl hw' (by first | exact .here | exact .there .here | exact .there (.there .here) | exact .there (.there (.there .here))) (All2.more (St.get_treeN hw' AtR).c .nil)) (Tab.st hT hw')); exact rfl; exact rfl; exact St.base IncB)) | (refine W1 ?_) | (refine W2 (fun hc => ?_) (fun hc => ?_)) | (intro _))
  exact names22 hN0 ta tb te w hT v1 v2 v3 p1 p2 k.1 k.2
end Go.Proofs.YtlhkkngpppcfoaaDoor
