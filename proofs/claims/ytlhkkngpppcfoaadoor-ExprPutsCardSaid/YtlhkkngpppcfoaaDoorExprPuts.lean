/-
  The law ExprPuts, walked: it answers true for every trees, numbers and name.
-/
import Derived.Test.YtlhkkngpppcfoaaDoorOpen
import Derived.Test.YtlhkkngpppcfoaaDoorSpoil5
set_option linter.all false
namespace Go.Bonsai
open Go Go.Sl Go.RowKit
theorem hTR_two {w0 w : World} {L : List HP} {A1 A2 : Option Addr} {c1 c2 : Nat} {t1 t2 : Tre} (h : St w0 (hNodes (.slice A1 t1.nodes.length c1) t1.nodes :: hNodes (.slice A2 t2.nodes.length c2) t2.nodes :: L) w) :
    St w0 (hTR [[.slice A1 t1.nodes.length c1, .int .i64 t1.root], [.slice A2 t2.nodes.length c2, .int .i64 t2.root]] [t1, t2] :: L) w := by
  have h1 := St.weak (H' := hTR [[.slice A1 t1.nodes.length c1, .int .i64 t1.root]] [t1]) (fun S w h => hTR_one h) h
  have h2 := St.joinX (K := hTR ([[.slice A1 t1.nodes.length c1, .int .i64 t1.root]] ++ [[.slice A2 t2.nodes.length c2, .int .i64 t2.root]]) ([t1] ++ [t2])) (fun S S' w h h' hd => hTR_snoc h h' hd) h1.swap
  exact h2
theorem hTR_four {w0 w : World} {L : List HP} {A1 A2 A3 A4 : Option Addr} {c1 c2 c3 c4 : Nat} {t1 t2 t3 t4 : Tre} (h : St w0 (hNodes (.slice A1 t1.nodes.length c1) t1.nodes :: hNodes (.slice A2 t2.nodes.length c2) t2.nodes :: hNodes (.slice A3 t3.nodes.length c3) t3.nodes :: hNodes (.slice A4 t4.nodes.length c4) t4.nodes :: L) w) :
    St w0 (hTR [[.slice A1 t1.nodes.length c1, .int .i64 t1.root], [.slice A2 t2.nodes.length c2, .int .i64 t2.root], [.slice A3 t3.nodes.length c3, .int .i64 t3.root], [.slice A4 t4.nodes.length c4, .int .i64 t4.root]] [t1, t2, t3, t4] :: L) w := by
  have h2 := hTR_two h
  have h3 := St.joinX (K := hTR ([[.slice A1 t1.nodes.length c1, .int .i64 t1.root], [.slice A2 t2.nodes.length c2, .int .i64 t2.root]] ++ [[.slice A3 t3.nodes.length c3, .int .i64 t3.root]]) ([t1, t2] ++ [t3])) (fun S S' w h h' hd => hTR_snoc h h' hd) h2.swap
  have h4 := St.joinX (K := hTR (([[.slice A1 t1.nodes.length c1, .int .i64 t1.root], [.slice A2 t2.nodes.length c2, .int .i64 t2.root]] ++ [[.slice A3 t3.nodes.length c3, .int .i64 t3.root]]) ++ [[.slice A4 t4.nodes.length c4, .int .i64 t4.root]]) (([t1, t2] ++ [t3]) ++ [t4])) (fun S S' w h h' hd => hTR_snoc h h' hd) h3.swap
  exact h4
theorem St.getTR {w0 w : World} {L : List HP} {rows : List (List Value)} {ts : List Tre} {i : Nat} {cs : List Value} {t : Tre} (h : St w0 L w) (ha : At L (hTR rows ts)) (hr : rows[i]? = some cs) (ht : ts[i]? = some t) : RTreeC (Old w) w cs t := (hTR_all (h.at_all ha)).2 i _ _ hr ht
theorem capN_wf {s : ByteArray} (h : s.size ≤ 300) : (capN s).wf := ⟨by show 0 ≤ (9 : Int) ∧ (9 : Int) ≤ 255; decide, Nod.zero_wf.set, by show s.size ≤ 140737488355328; omega, Nod.zero_wf.min, Nod.zero_wf.max, Nod.zero_wf.kids⟩
end Go.Bonsai
namespace Go.Proofs.YtlhkkngpppcfoaaDoor
open Go Go.Sl Go.RowKit Go.Bonsai
set_option linter.unusedVariables false
set_option linter.unusedSimpArgs false

set_option maxHeartbeats 8000000 in
set_option maxRecDepth 20000 in
theorem exprPuts_any (v : Value) (l : List Tre) (na nb : Int) (s : ByteArray) (w : World) (hr : RTrees (Old w) w v l) (hll : l.length ≤ 4398046511104) (hwl : ∀ t ∈ l, t.wf) (hla : (Lit.int .i64 na).wf = true) (hlb : (Lit.int .i64 nb).wf = true) (hls : s.size ≤ maxLen) (hT : Tab w) :
    Calls Tryd.prog 11 #[v, .int .i64 na, .int .i64 nb, .string s] w (RetV w (.bool true)) := by
  have hr0 := hr
  have hna := lit_i64 hla
  have hnb := lit_i64 hlb
  clear hla hlb hls
  obtain ⟨A, c, rows0, rfl, hA, hrows, hc⟩ := hr
  refine TC.calls (l := [.slice A l.length c, .int .i64 na, .int .i64 nb, .string s]) Tryd.func11 rfl Tryd.ntmps11 rfl (St.start w) ?_
  repeat' (first | (refine W1 ?_) | (refine W2 (fun hc => ?_) (fun hc => ?_)) | (intro _))
  refine T.callR rfl rfl (fun w' hw' => large5_any _ l w' (St.old_trees hw' hr0) hll hwl) (fun bb hb => ?_)
  have hend : ∀ (p : Prop), p → p := fun _ h => h
  cases bb with
  | true =>
    repeat' (first | (refine W1 ?_) | (refine W2 (fun hc => ?_) (fun hc => ?_)) | (intro _))
    refine T.callV rfl rfl (fun w' hw' => awake5_any w' (Tab.st hT hw')) ?_
    repeat' (first | (refine W1 ?_) | (refine W2 (fun hc => ?_) (fun hc => ?_)) | (intro _))
    exact TX.ret_tmp rfl rfl (fun w' hw => RetV.eq hw rfl)
  | false =>
  have hS : l.length + tot l + totK l < 400 := hb rfl
  clear hb hll
  by_cases hsz : s.size ≤ 300
  case neg =>
    have d1 : decide ((300 : Int) < (s.size : Int)) = true := decide_eq_true (by omega)
    repeat' (first | (refine W1 ?_) | (refine W2 (fun hc => ?_) (fun hc => ?_)) | (intro _))
    refine T.callV rfl rfl (fun w' hw' => awake5_any w' (Tab.st hT hw')) ?_
    repeat' (first | (refine W1 ?_) | (refine W2 (fun hc => ?_) (fun hc => ?_)) | (intro _))
    exact TX.ret_tmp rfl rfl (fun w' hw => RetV.eq hw rfl)
  have d1 : decide ((300 : Int) < (s.size : Int)) = false := decide_eq_false (by omega)
  by_cases hl40 : l.length ≤ 40
  case neg =>
    have d2 : decide ((40 : Int) < (l.length : Int)) = true := decide_eq_true (by omega)
    repeat' (first | (refine W1 ?_) | (refine W2 (fun hc => ?_) (fun hc => ?_)) | (intro _))
    refine T.callV rfl rfl (fun w' hw' => awake5_any w' (Tab.st hT hw')) ?_
    repeat' (first | (refine W1 ?_) | (refine W2 (fun hc => ?_) (fun hc => ?_)) | (intro _))
    exact TX.ret_tmp rfl rfl (fun w' hw => RetV.eq hw rfl)
  have d2 : decide ((40 : Int) < (l.length : Int)) = false := decide_eq_false (by omega)
  have hcw := capN_wf hsz
  have hkl : ∀ t ∈ l, (allKids t.nodes).length ≤ bigL := fun t ht => by have := totK_le ht; unfold bigL; omega
  have hnl : ∀ t ∈ l, t.nodes.length < 400 := fun t ht => by have := tot_le ht; omega
  have hwA := putP_wf (n := seqN0) seqN0_wf hwl (by unfold bigN; omega)
  have hwC := putP_wf (n := choN0) choN0_wf hwl (by unfold bigN; omega)
  have cA : ∀ w' v, RTrees (Old w') w' v l → Tab w' → Calls Tryd.prog 55 #[v] w' (RetTB w' (putP seqN0 l)) := fun w' v hr hT => eseq_any v l w' hr (by unfold bigN; omega) hwl (by unfold bigN; omega) hT
  have cC : ∀ w' v, RTrees (Old w') w' v l → Tab w' → Calls Tryd.prog 57 #[v] w' (RetTB w' (putP choN0 l)) := fun w' v hr hT => echoice_any v l w' hr (by unfold bigN; omega) hwl (by unfold bigN; omega) hT
  have rA : ∀ w' v, RTrees (Old w') w' v l → Calls Tryd.prog 63 #[v] w' (RetTB w' (putP seqN0 l)) := fun w' v hr => rseq_any v l w' hr hwl (by omega) (by omega) hkl
  have rC : ∀ w' v, RTrees (Old w') w' v l → Calls Tryd.prog 64 #[v] w' (RetTB w' (putP choN0 l)) := fun w' v hr => rchoice_any v l w' hr hwl (by omega) (by omega) hkl
  generalize putP seqN0 l = SA at *
  generalize putP choN0 l = SC at *
  have k1 : (!(SA.2 == SA.2)) = false := by simp
  have k2 : (!(SC.2 == SC.2)) = false := by simp
  have k3 : (!decide ([SA.1, SC.1] = [SA.1, SC.1])) = false := by simp
  have w2 : ∀ y ∈ [SA.1, SC.1], y.wf := by intro y hy; simp at hy; rcases hy with rfl | rfl <;> assumption
  have kl : decide (l = l) = true := by simp
  repeat' (first | (refine W1 ?_) | (refine W2 (fun hc => ?_) (fun hc => ?_)) | (intro _))
  refine TC.loopA (ι := (Option Addr × Nat) × Nat × List (List Value)) ((none, 0), 0, []) (fun k r => (10, .int .i64 k.2.1) :: (9, .slice k.1.1 k.2.1 k.1.2) :: r)
    (fun k => St w [own 24 2 k.1.1 k.2.1 k.1.2 k.2.2, hTR k.2.2 (l.take k.2.1)]) (fun k => k.2.1 ≤ l.length) (fun k => l.length - k.2.1) KpA SubA (fun w' hw => St.inc IncQ (St.own_nil (e := 24) (sz := 2) (St.trs_nil hw))) (Nat.zero_le _) ?_
  rintro ⟨⟨AX, cX⟩, i, xr⟩ hi
  simp only at hi ⊢
  by_cases hlt : i < l.length
  · have hck : decide ((i : Int) < (l.length : Int)) = true := by simp [hlt]
    have hgx : l[i]? = some l[i] := List.getElem?_eq_getElem hlt
    have hmem := List.getElem_mem hlt
    have htk : l.take (i + 1) = l.take i ++ [l[i]] := List.take_succ_eq_append_getElem hlt
    generalize l[i] = x at *
    obtain ⟨cs, hcs, K, kc, rfl, hK⟩ := hrows.get hgx
    have hwx := hwl x hmem
    have hRx : RTree (Old w) w (.agg #[.slice K x.nodes.length kc, .int .i64 x.root]) x := ⟨_, rfl, hK⟩
    have hA' : A = some (A.getD default) := hA.some_ (by omega)
    repeat' (first | (refine W1 ?_) | (refine W2 (fun hc => ?_) (fun hc => ?_)) | (intro _))
    refine T.callR rfl rfl (fun w' hw' => own5_any _ x w' (St.old_tree hw' hRx) hwx) (fun p _ => ?_)
    repeat' (first | (refine W1 ?_) | (refine W2 (fun hc => ?_) (fun hc => ?_)) | (intro _))
    refine T.append (rows := xr) (news := [[.slice p.1 x.nodes.length p.2, .int .i64 x.root]]) rfl rfl rfl DelA (fun w hw => St.own_arr hw AtA) (fun _ _ r hr => by simp at hr; subst hr; rfl) (by unfold maxLen; omega) (by omega) (fun A4 c4 => ?_)
    repeat' (first | (refine W1 ?_) | (refine W2 (fun hc => ?_) (fun hc => ?_)) | (intro _))
    refine TX.round ((A4, c4), i + 1, xr ++ [[.slice p.1 x.nodes.length p.2, .int .i64 x.root]]) hlt (show l.length - (i + 1) < l.length - i by omega) SubA (fun w' hw => ?_)
    have h0 := St.del (H := hTR xr (l.take i)) DelA hw
    have h1 := St.del (H := hNodes (.slice p.1 x.nodes.length p.2) x.nodes) DelA h0
    have h2 := St.joinX (K := hTR (xr ++ [[.slice p.1 x.nodes.length p.2, .int .i64 x.root]]) (l.take (i + 1))) (fun S S' w h h' hd => by rw [htk]; exact hTR_snoc h h' hd) h1
    exact St.inc IncQ h2
  have hck : decide ((i : Int) < (l.length : Int)) = false := by simp; omega
  obtain rfl : i = l.length := by omega
  rw [List.take_of_length_le (Nat.le_refl _)]
  clear hlt hi
  repeat' (first | (refine W1 ?_) | (refine W2 (fun hc => ?_) (fun hc => ?_)) | (intro _))
  refine TC.loopA (ι := Nat) 0 (fun k r => (11, .int .i64 k) :: r) (fun _ => St w [own 24 2 AX l.length cX xr, hTR xr l]) (fun k => k ≤ 2) (fun k => 2 - k) KpA SubA (fun w' hw => hw) (by omega) ?_
  intro k hk
  by_cases hk2 : k < 2
  · have hck2 : decide ((k : Int) < 2) = true := by simp; omega
    repeat' (first | ((apply T.ev_; exact rfl; apply Ev.loadW; exact rfl; exact AtR; exact rfl)) | (refine W1 ?_) | (refine W2 (fun hc => ?_) (fun hc => ?_)) | (intro _))
    refine T.callR rfl rfl (fun w' hw' => cA w' _ (RTrees.ownTO (e := 24) (A := AX) (c := cX) (rows := xr) rfl hw' AtR AtR) (Tab.st hT hw')) (fun q1 _ => ?_)
    repeat' (first | ((apply T.ev_; exact rfl; apply Ev.loadW; exact rfl; exact AtR; exact rfl)) | (refine W1 ?_) | (refine W2 (fun hc => ?_) (fun hc => ?_)) | (intro _))
    rename_i b12
    refine T.callR rfl rfl (fun w' hw' => rA w' _ (St.old_trees hw' hr0)) (fun r1 _ => ?_)
    repeat' (first | ((apply T.ev_; exact rfl; apply Ev.loadW; exact rfl; exact AtR; exact rfl)) | (refine W1 ?_) | (refine W2 (fun hc => ?_) (fun hc => ?_)) | (intro _))
    rename_i b14
    refine T.callR rfl rfl (fun w' hw' => cC w' _ (RTrees.ownTO (e := 24) (A := AX) (c := cX) (rows := xr) rfl hw' AtR AtR) (Tab.st hT hw')) (fun q2 _ => ?_)
    repeat' (first | ((apply T.ev_; exact rfl; apply Ev.loadW; exact rfl; exact AtR; exact rfl)) | (refine W1 ?_) | (refine W2 (fun hc => ?_) (fun hc => ?_)) | (intro _))
    rename_i b16
    refine T.callR rfl rfl (fun w' hw' => rC w' _ (St.old_trees hw' hr0)) (fun r2 _ => ?_)
    repeat' (first | ((apply T.ev_; exact rfl; apply Ev.loadW; exact rfl; exact AtR; exact rfl)) | (refine W1 ?_) | (refine W2 (fun hc => ?_) (fun hc => ?_)) | (intro _))
    rename_i b18 B90 B93
    refine T.callV rfl rfl (fun w' hw' => exacts_any _ _ [SA.1, SC.1] [SA.1, SC.1] w' (RTrees.of rfl hw' (.there .here) (All2.more (St.get_treeN (A := q1.1) (c := q1.2) (t := SA.1) hw' AtR).c (All2.more (St.get_treeN (A := q2.1) (c := q2.2) (t := SC.1) hw' AtR).c .nil))) (RTrees.of rfl hw' .here (All2.more (St.get_treeN (A := r1.1) (c := r1.2) (t := SA.1) hw' AtR).c (All2.more (St.get_treeN (A := r2.1) (c := r2.2) (t := SC.1) hw' AtR).c .nil))) (by unfold bigN; simp) (by unfold bigN; simp) w2 w2) ?_
    repeat' (first | ((apply T.ev_; exact rfl; apply Ev.loadW; exact rfl; exact AtR; exact rfl)) | ((refine TC.holdR 17 ?_)) | (refine W1 ?_) | (refine W2 (fun hc => ?_) (fun hc => ?_)) | (intro _))
    refine ⟨?_⟩
    refine TC.sub (M' := St w [blk b16 [.slice q2.1 SC.1.nodes.length q2.2, .int .i64 SC.1.root] 24, hNodes (.slice q2.1 SC.1.nodes.length q2.2) SC.1.nodes, blk b12 [.slice q1.1 SA.1.nodes.length q1.2, .int .i64 SA.1.root] 24, hNodes (.slice q1.1 SA.1.nodes.length q1.2) SA.1.nodes, own 24 2 AX l.length cX xr, hTR xr l]) (fun w' hw => St.inc IncQ hw) ?_
    repeat' (first | ((apply T.ev_; exact rfl; apply Ev.loadW; exact rfl; exact AtR; exact rfl)) | (refine W1 ?_) | (refine W2 (fun hc => ?_) (fun hc => ?_)) | (intro _))
    rename_i B108
    refine T.callM (val := fun _ : Unit => .tuple #[]) (LL := fun _ => [own 24 2 AX l.length cX xr, hTR xr l]) rfl rfl (fun w' hw' => ?_) (fun _ => ?_)
    · have g1 := St.inc (L' := [hNodes (.slice q1.1 SA.1.nodes.length q1.2) SA.1.nodes, hNodes (.slice q2.1 SC.1.nodes.length q2.2) SC.1.nodes, own 24 2 (some ⟨B108, 0, none⟩) 2 2 [[.slice q1.1 SA.1.nodes.length q1.2, .int .i64 SA.1.root], [.slice q2.1 SC.1.nodes.length q2.2, .int .i64 SC.1.root]], own 24 2 AX l.length cX xr, hTR xr l]) IncQ hw'
      exact spoil5_any (some ⟨B108, 0, none⟩) 2 24 [[.slice q1.1 SA.1.nodes.length q1.2, .int .i64 SA.1.root], [.slice q2.1 SC.1.nodes.length q2.2, .int .i64 SC.1.root]] [SA.1, SC.1] w' (by simp) w2 (hTR_two g1).swap
    repeat' (first | ((apply T.ev_; exact rfl; apply Ev.loadW; exact rfl; exact AtR; exact rfl)) | (refine W1 ?_) | (refine W2 (fun hc => ?_) (fun hc => ?_)) | (intro _))
    refine TC.loopA (ι := Nat) 0 (fun k r => (20, .int .i64 k) :: r) (fun _ => St w [own 24 2 AX l.length cX xr, hTR xr l]) (fun j => j ≤ l.length ∧ j ≤ 3) (fun j => 3 - j) KpA SubA (fun w' hw => St.inc IncQ hw) ⟨Nat.zero_le _, by omega⟩ ?_
    rintro j ⟨hj, hj3⟩
    by_cases hjl : j < l.length
    case neg =>
      have hcj : decide ((j : Int) < (l.length : Int)) = false := by simp; omega
      repeat' (first | (refine W1 ?_) | (refine W2 (fun hc => ?_) (fun hc => ?_)) | (intro _))
      exact TX.round (k + 1) (by omega) (by omega) SubA (fun w' hw => St.inc IncQ hw)
    have hcj : decide ((j : Int) < (l.length : Int)) = true := by simp [hjl]
    by_cases hjl3 : j < 3
    case neg =>
      have hcj3 : decide ((j : Int) < 3) = false := decide_eq_false (by omega)
      repeat' (first | (refine W1 ?_) | (refine W2 (fun hc => ?_) (fun hc => ?_)) | (intro _))
      exact TX.round (k + 1) (by omega) (by omega) SubA (fun w' hw => St.inc IncQ hw)
    have hcj3 : decide ((j : Int) < 3) = true := decide_eq_true (by omega)
    have hgx : l[j]? = some l[j] := List.getElem?_eq_getElem hjl
    have hmem := List.getElem_mem hjl
    generalize l[j] = x at *
    obtain ⟨cs, hcs, K, kc, rfl, hK⟩ := hrows.get hgx
    have hwx := hwl x hmem
    have hnx := hnl x hmem
    have hkx := hkl x hmem
    have hRx : RTree (Old w) w (.agg #[.slice K x.nodes.length kc, .int .i64 x.root]) x := ⟨_, rfl, hK⟩
    have hA' : A = some (A.getD default) := hA.some_ (by omega)
    refine TC.fact (φ := ∃ r, xr[j]? = some r) (fun w hw => ?_) (fun hxr => ?_)
    · have h1 := (St.own_arr (e := 24) (A := AX) (n := l.length) (c := cX) (rows := xr) hw AtA).1
      exact ⟨_, List.getElem?_eq_getElem (by omega)⟩
    obtain ⟨xrow, hxr⟩ := hxr
    refine TC.fact (φ := ∃ K2 kc2, xrow = [.slice K2 x.nodes.length kc2, .int .i64 x.root]) (fun w hw => ?_) (fun hxs => ?_)
    · obtain ⟨K2, kc2, e, _⟩ := St.getTR (rows := xr) (ts := l) hw AtA hxr hgx
      exact ⟨K2, kc2, e⟩
    obtain ⟨K2, kc2, rfl⟩ := hxs
    refine TC.fact (φ := AX = some (AX.getD default)) (fun w hw => (St.own_arr (e := 24) (A := AX) (n := l.length) (c := cX) (rows := xr) hw AtA).some_ (by omega)) (fun hAX => ?_)
    have hRX : ∀ {L : List HP} {w' : World}, St w L w' → At L (hTR xr l) → RTree (Old w') w' (.agg #[.slice K2 x.nodes.length kc2, .int .i64 x.root]) x := fun h ha => (St.getTR h ha hxr hgx).tree
    have htx : tot [x] + 1 ≤ bigN := by rw [tot_cons]; simp [tot]; unfold bigN; omega
    have hwlx : ∀ y ∈ [x], y.wf := by intro y hy; simp at hy; subst hy; exact hwx
    have hw1 := putP_wf (n := repN na nb) (repN_wf hna hnb) hwlx htx
    have hw2 := putP_wf (n := andN0) andN0_wf hwlx htx
    have hw3 := putP_wf (n := notN0) notN0_wf hwlx htx
    have hw4 := putP_wf (n := capN s) hcw hwlx htx
    have c1 : ∀ w' v, RTree (Old w') w' v x → Tab w' → Calls Tryd.prog 66 #[v, .int .i64 na, .int .i64 nb] w' (RetTB w' (putP (repN na nb) [x])) := fun w' v hr hT => erep_any v x na nb hna hnb w' hr hwx (by unfold bigN; omega) hT
    have r1 : ∀ w' v, RTree (Old w') w' v x → Calls Tryd.prog 67 #[v, .int .i64 na, .int .i64 nb] w' (RetTB w' (putP (repN na nb) [x])) := fun w' v hr => rrep_any v x na nb hna hnb w' hr hwx (by omega) hkx
    have c2 : ∀ w' v, RTree (Old w') w' v x → Tab w' → Calls Tryd.prog 68 #[v] w' (RetTB w' (putP andN0 [x])) := fun w' v hr hT => eand_any v x w' hr hwx (by unfold bigN; omega) hT
    have r2 : ∀ w' v, RTree (Old w') w' v x → Calls Tryd.prog 69 #[v] w' (RetTB w' (putP andN0 [x])) := fun w' v hr => rand_any v x w' hr hwx (by omega) hkx
    have c3 : ∀ w' v, RTree (Old w') w' v x → Tab w' → Calls Tryd.prog 70 #[v] w' (RetTB w' (putP notN0 [x])) := fun w' v hr hT => enot_any v x w' hr hwx (by unfold bigN; omega) hT
    have r3 : ∀ w' v, RTree (Old w') w' v x → Calls Tryd.prog 71 #[v] w' (RetTB w' (putP notN0 [x])) := fun w' v hr => rnot_any v x w' hr hwx (by omega) hkx
    have c4 : ∀ w' v, RTree (Old w') w' v x → Tab w' → Calls Tryd.prog 72 #[.string s, v] w' (RetTB w' (putP (capN s) [x])) := fun w' v hr hT => ecap_any v x s hcw w' hr hwx (by unfold bigN; omega) hT
    have r4 : ∀ w' v, RTree (Old w') w' v x → Calls Tryd.prog 73 #[.string s, v] w' (RetTB w' (putP (capN s) [x])) := fun w' v hr => rcap_any v x s hcw w' hr hwx (by omega) hkx
    generalize putP (repN na nb) [x] = Y1 at *
    generalize putP andN0 [x] = Y2 at *
    generalize putP notN0 [x] = Y3 at *
    generalize putP (capN s) [x] = Y4 at *
    have e1 : (!(Y1.2 == Y1.2)) = false := by simp
    have e2 : (!(Y2.2 == Y2.2)) = false := by simp
    have e3 : (!(Y3.2 == Y3.2)) = false := by simp
    have e4 : (!(Y4.2 == Y4.2)) = false := by simp
    have e5 : (!decide ([Y1.1, Y2.1, Y3.1, Y4.1] = [Y1.1, Y2.1, Y3.1, Y4.1])) = false := by simp
    have w4 : ∀ y ∈ [Y1.1, Y2.1, Y3.1, Y4.1], y.wf := by intro y hy; simp at hy; rcases hy with rfl | rfl | rfl | rfl <;> assumption
    repeat' (first | ((apply T.ev_; exact rfl; apply Ev.loadW; exact rfl; exact AtR; exact rfl)) | (refine W1 ?_) | (refine W2 (fun hc => ?_) (fun hc => ?_)) | (intro _))
    refine T.callR rfl rfl (fun w' hw' => c1 w' _ (hRX hw' AtR) (Tab.st hT hw')) (fun q1 _ => ?_)
    repeat' (first | ((apply T.ev_; exact rfl; apply Ev.loadW; exact rfl; exact AtR; exact rfl)) | (refine W1 ?_) | (refine W2 (fun hc => ?_) (fun hc => ?_)) | (intro _))
    rename_i b21
    refine T.callR rfl rfl (fun w' hw' => r1 w' _ (St.old_tree hw' hRx)) (fun s1 _ => ?_)
    repeat' (first | ((apply T.ev_; exact rfl; apply Ev.loadW; exact rfl; exact AtR; exact rfl)) | (refine W1 ?_) | (refine W2 (fun hc => ?_) (fun hc => ?_)) | (intro _))
    rename_i b23
    refine T.callR rfl rfl (fun w' hw' => c2 w' _ (hRX hw' AtR) (Tab.st hT hw')) (fun q2 _ => ?_)
    repeat' (first | ((apply T.ev_; exact rfl; apply Ev.loadW; exact rfl; exact AtR; exact rfl)) | (refine W1 ?_) | (refine W2 (fun hc => ?_) (fun hc => ?_)) | (intro _))
    rename_i b25
    refine T.callR rfl rfl (fun w' hw' => r2 w' _ (St.old_tree hw' hRx)) (fun s2 _ => ?_)
    repeat' (first | ((apply T.ev_; exact rfl; apply Ev.loadW; exact rfl; exact AtR; exact rfl)) | (refine W1 ?_) | (refine W2 (fun hc => ?_) (fun hc => ?_)) | (intro _))
    rename_i b27
    refine T.callR rfl rfl (fun w' hw' => c3 w' _ (hRX hw' AtR) (Tab.st hT hw')) (fun q3 _ => ?_)
    repeat' (first | ((apply T.ev_; exact rfl; apply Ev.loadW; exact rfl; exact AtR; exact rfl)) | (refine W1 ?_) | (refine W2 (fun hc => ?_) (fun hc => ?_)) | (intro _))
    rename_i b29
    refine T.callR rfl rfl (fun w' hw' => r3 w' _ (St.old_tree hw' hRx)) (fun s3 _ => ?_)
    repeat' (first | ((apply T.ev_; exact rfl; apply Ev.loadW; exact rfl; exact AtR; exact rfl)) | (refine W1 ?_) | (refine W2 (fun hc => ?_) (fun hc => ?_)) | (intro _))
    rename_i b31
    refine T.callR rfl rfl (fun w' hw' => c4 w' _ (hRX hw' AtR) (Tab.st hT hw')) (fun q4 _ => ?_)
    repeat' (first | ((apply T.ev_; exact rfl; apply Ev.loadW; exact rfl; exact AtR; exact rfl)) | (refine W1 ?_) | (refine W2 (fun hc => ?_) (fun hc => ?_)) | (intro _))
    rename_i b33
    refine T.callR rfl rfl (fun w' hw' => r4 w' _ (St.old_tree hw' hRx)) (fun s4 _ => ?_)
    repeat' (first | ((apply T.ev_; exact rfl; apply Ev.loadW; exact rfl; exact AtR; exact rfl)) | (refine W1 ?_) | (refine W2 (fun hc => ?_) (fun hc => ?_)) | (intro _))
    rename_i b35 B194 B199
    refine T.callV rfl rfl (fun w' hw' => exacts_any _ _ [Y1.1, Y2.1, Y3.1, Y4.1] [Y1.1, Y2.1, Y3.1, Y4.1] w' (RTrees.of rfl hw' (.there .here) (All2.more (St.get_treeN (A := q1.1) (c := q1.2) (t := Y1.1) hw' AtR).c (All2.more (St.get_treeN (A := q2.1) (c := q2.2) (t := Y2.1) hw' AtR).c (All2.more (St.get_treeN (A := q3.1) (c := q3.2) (t := Y3.1) hw' AtR).c (All2.more (St.get_treeN (A := q4.1) (c := q4.2) (t := Y4.1) hw' AtR).c .nil))))) (RTrees.of rfl hw' .here (All2.more (St.get_treeN (A := s1.1) (c := s1.2) (t := Y1.1) hw' AtR).c (All2.more (St.get_treeN (A := s2.1) (c := s2.2) (t := Y2.1) hw' AtR).c (All2.more (St.get_treeN (A := s3.1) (c := s3.2) (t := Y3.1) hw' AtR).c (All2.more (St.get_treeN (A := s4.1) (c := s4.2) (t := Y4.1) hw' AtR).c .nil))))) (by unfold bigN; simp) (by unfold bigN; simp) w4 w4) ?_
    repeat' (first | ((apply T.ev_; exact rfl; apply Ev.loadW; exact rfl; exact AtR; exact rfl)) | (refine W1 ?_) | (refine W2 (fun hc => ?_) (fun hc => ?_)) | (intro _))
    rename_i B226
    refine T.callM (val := fun _ : Unit => .tuple #[]) (LL := fun _ => [own 24 2 AX l.length cX xr, hTR xr l]) rfl rfl (fun w' hw' => ?_) (fun _ => ?_)
    · have g0 : St w (own 24 2 (some ⟨B226, 0, none⟩) 4 4 [[.slice q1.1 Y1.1.nodes.length q1.2, .int .i64 Y1.1.root], [.slice q2.1 Y2.1.nodes.length q2.2, .int .i64 Y2.1.root], [.slice q3.1 Y3.1.nodes.length q3.2, .int .i64 Y3.1.root], [.slice q4.1 Y4.1.nodes.length q4.2, .int .i64 Y4.1.root]] :: _) w' := hw'
      have g00 := St.inc (L' := [own 24 2 (some ⟨B226, 0, none⟩) 4 4 [[.slice q1.1 Y1.1.nodes.length q1.2, .int .i64 Y1.1.root], [.slice q2.1 Y2.1.nodes.length q2.2, .int .i64 Y2.1.root], [.slice q3.1 Y3.1.nodes.length q3.2, .int .i64 Y3.1.root], [.slice q4.1 Y4.1.nodes.length q4.2, .int .i64 Y4.1.root]], hNodes (.slice q4.1 Y4.1.nodes.length q4.2) Y4.1.nodes, hNodes (.slice q3.1 Y3.1.nodes.length q3.2) Y3.1.nodes, hNodes (.slice q2.1 Y2.1.nodes.length q2.2) Y2.1.nodes, hNodes (.slice q1.1 Y1.1.nodes.length q1.2) Y1.1.nodes, own 24 2 AX l.length cX xr, hTR xr l]) IncQ g0
      have g1 := St.inc (L' := [hNodes (.slice q1.1 Y1.1.nodes.length q1.2) Y1.1.nodes, hNodes (.slice q2.1 Y2.1.nodes.length q2.2) Y2.1.nodes, hNodes (.slice q3.1 Y3.1.nodes.length q3.2) Y3.1.nodes, hNodes (.slice q4.1 Y4.1.nodes.length q4.2) Y4.1.nodes, own 24 2 (some ⟨B226, 0, none⟩) 4 4 [[.slice q1.1 Y1.1.nodes.length q1.2, .int .i64 Y1.1.root], [.slice q2.1 Y2.1.nodes.length q2.2, .int .i64 Y2.1.root], [.slice q3.1 Y3.1.nodes.length q3.2, .int .i64 Y3.1.root], [.slice q4.1 Y4.1.nodes.length q4.2, .int .i64 Y4.1.root]], own 24 2 AX l.length cX xr, hTR xr l]) IncQ g00
      exact spoil5_any (some ⟨B226, 0, none⟩) 4 24 [[.slice q1.1 Y1.1.nodes.length q1.2, .int .i64 Y1.1.root], [.slice q2.1 Y2.1.nodes.length q2.2, .int .i64 Y2.1.root], [.slice q3.1 Y3.1.nodes.length q3.2, .int .i64 Y3.1.root], [.slice q4.1 Y4.1.nodes.length q4.2, .int .i64 Y4.1.root]] [Y1.1, Y2.1, Y3.1, Y4.1] w' (by simp) w4 (hTR_four g1).swap
    repeat' (first | (refine W1 ?_) | (refine W2 (fun hc => ?_) (fun hc => ?_)) | (intro _))
    exact TX.round (j + 1) ⟨by omega, by omega⟩ (by omega) SubA (fun w' hw => St.inc IncQ hw)
  · have hck2 : decide ((k : Int) < 2) = false := by simp; omega
    repeat' (first | (refine W1 ?_) | (refine W2 (fun hc => ?_) (fun hc => ?_)) | (intro _))
    refine T.callV rfl rfl (fun w' hw' => exacts_any _ _ l l w' (RTrees.ownTO (e := 24) (A := AX) (c := cX) (rows := xr) rfl hw' AtA AtA) (St.old_trees hw' hr0) (by unfold bigN; omega) (by unfold bigN; omega) hwl hwl) ?_
    repeat' (first | (refine W1 ?_) | (refine W2 (fun hc => ?_) (fun hc => ?_)) | (intro _))
    refine T.callV rfl rfl (fun w' hw' => awake5_any w' (Tab.st hT hw')) ?_
    repeat' (first | (refine W1 ?_) | (refine W2 (fun hc => ?_) (fun hc => ?_)) | (intro _))
    exact TX.ret_tmp rfl rfl (fun w' hw => RetV.eq hw rfl)
end Go.Proofs.YtlhkkngpppcfoaaDoor
