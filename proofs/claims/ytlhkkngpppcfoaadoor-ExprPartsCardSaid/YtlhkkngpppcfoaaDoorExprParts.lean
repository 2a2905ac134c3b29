/-
  The law ExprParts, walked: it answers true for every trees.
-/
import Derived.Test.YtlhkkngpppcfoaaDoorAwake5
set_option linter.all false
namespace Go.Bonsai
open Go Go.Sl Go.RowKit
theorem see_oneB {w0 w : World} {L : List HP} {e n c : Nat} {A : Option Addr} {rows : List (List Value)} {ts : List Tre} (hl : ts.length = n) (hw : St w0 L w) (ha : At L (own e 2 A n c rows)) (hb : At L (hSee (rows.zip ts))) : ∀ r ∈ rows, oneB r = true := by
  intro r hr
  obtain ⟨y, hy⟩ := List.mem_iff_getElem?.1 hr
  have hyl := (List.getElem?_eq_some_iff.1 hy).1
  have h3l := (St.own_arr hw ha).1
  obtain ⟨Ky, cy, e5, _⟩ := St.see hw hb (zip_mem hy (List.getElem?_eq_getElem (by omega)))
  rw [e5]; rfl
theorem flat_take {l : List Tre} {f : Tre → List Tre} {i : Nat} {x : Tre} (h : l.take (i + 1) = l.take i ++ [x]) : ((l.take (i + 1)).map f).flatten = ((l.take i).map f).flatten ++ f x := by
  rw [h]; simp
theorem flat_len {f : Tre → List Tre} (hf : ∀ t, (f t).length ≤ t.nodes.length) (l : List Tre) : ((l.map f).flatten).length ≤ tot l := by
  induction l with
  | nil => simp [tot]
  | cons t l ih =>
    have := hf t
    rw [List.map_cons, List.flatten_cons, List.length_append, tot_cons]
    omega
theorem flat_wf {f : Tre → List Tre} {l : List Tre} (hf : ∀ t ∈ l, ∀ x ∈ f t, x.wf) : ∀ x ∈ (l.map f).flatten, x.wf := by
  intro x hx
  rw [List.mem_flatten] at hx
  obtain ⟨s, hs, hx⟩ := hx
  obtain ⟨t, ht, rfl⟩ := List.mem_map.1 hs
  exact hf t ht x hx
end Go.Bonsai
namespace Go.Proofs.YtlhkkngpppcfoaaDoor
open Go Go.Sl Go.RowKit Go.Bonsai
set_option linter.unusedVariables false
set_option linter.unusedSimpArgs false

set_option maxHeartbeats 8000000 in
theorem exprParts_any (v : Value) (l : List Tre) (w : World) (hr : RTrees (Old w) w v l) (hll : l.length ≤ 4398046511104) (hwl : ∀ t ∈ l, t.wf) (hT : Tab w) :
    Calls Tryd.prog 10 #[v] w (RetV w (.bool true)) := by
  have hr0 := hr
  obtain ⟨A, c, rows0, rfl, hA, hrows, hc⟩ := hr
  refine TC.calls (l := [.slice A l.length c]) Tryd.func10 rfl Tryd.ntmps10 rfl (St.start w) ?_
  repeat' (first | (refine W1 ?_) | (refine W2 (fun hc => ?_) (fun hc => ?_)) | (intro _))
  refine T.callR rfl rfl (fun w' hw' => large5_any _ l w' (St.old_trees hw' hr0) hll hwl) (fun bb hb => ?_)
  cases bb with
  | true =>
    repeat' (first | (refine W1 ?_) | (refine W2 (fun hc => ?_) (fun hc => ?_)) | (intro _))
    refine T.callV rfl rfl (fun w' hw' => awake5_any w' (Tab.st hT hw')) ?_
    repeat' (first | (refine W1 ?_) | (refine W2 (fun hc => ?_) (fun hc => ?_)) | (intro _))
    exact TX.ret_tmp rfl rfl (fun w' hw => RetV.eq hw rfl)
  | false =>
  have hS : l.length + tot l + totK l < 400 := hb rfl
  clear hb hll
  repeat' (first | (refine W1 ?_) | (refine W2 (fun hc => ?_) (fun hc => ?_)) | (intro _))
  refine T.callV rfl rfl (fun w' hw' => awake5_any w' (Tab.st hT hw')) ?_
  repeat' (first | (refine W1 ?_) | (refine W2 (fun hc => ?_) (fun hc => ?_)) | (intro _))
  refine TC.loopA (ι := Nat × ((Option Addr × Nat) × List (List Value)) × ((Option Addr × Nat) × List (List Value))) (0, ((none, 0), []), ((none, 0), []))
    (fun k r => (5, .int .i64 k.1) :: (3, .slice k.2.1.1.1 (((l.take k.1).map partsP).flatten).length k.2.1.1.2) :: (4, .slice k.2.2.1.1 (((l.take k.1).map waysP).flatten).length k.2.2.1.2) :: r)
    (fun k => St w [own 24 2 k.2.1.1.1 (((l.take k.1).map partsP).flatten).length k.2.1.1.2 k.2.1.2, hSee (k.2.1.2.zip (((l.take k.1).map partsP).flatten)), own 24 2 k.2.2.1.1 (((l.take k.1).map waysP).flatten).length k.2.2.1.2 k.2.2.2, hSee (k.2.2.2.zip (((l.take k.1).map waysP).flatten))])
    (fun k => k.1 ≤ l.length ∧ allR (l.take k.1) = true) (fun k => l.length - k.1) KpA SubA (fun w' hw => ?_) ⟨Nat.zero_le _, rfl⟩ ?_
  · have g1 := St.push (H := hSee (([] : List (List Value)).zip ([] : List Tre))) (St.own_nil (e := 24) (sz := 2) hw) Chg.refl (fun p hp => by simp at hp)
    have g2 := St.push (H := hSee (([] : List (List Value)).zip ([] : List Tre))) (St.own_nil (e := 24) (sz := 2) g1) Chg.refl (fun p hp => by simp at hp)
    have g3 : St w [own 24 2 none 0 0 [], hSee (([] : List (List Value)).zip ([] : List Tre)), own 24 2 none 0 0 [], hSee (([] : List (List Value)).zip ([] : List Tre))] w' := St.inc IncQ g2
    exact g3
  rintro ⟨i, ⟨⟨A1, c1⟩, prow⟩, ⟨⟨A2, c2⟩, wrow⟩⟩ ⟨hi, hall⟩
  simp only at hi hall ⊢
  have hpl := flat_len (fun t => (partsP_tot t).2) (l.take i)
  have hwl2 := flat_len (fun t => (waysP_tot t).2) (l.take i)
  have htt := tot_take_le l i
  by_cases hlt : i < l.length
  · have hck : decide ((i : Int) < (l.length : Int)) = true := by simp [hlt]
    have hgx : l[i]? = some l[i] := List.getElem?_eq_getElem hlt
    have hmem := List.getElem_mem hlt
    have htk : l.take (i + 1) = l.take i ++ [l[i]] := List.take_succ_eq_append_getElem hlt
    generalize l[i] = x at *
    obtain ⟨cs, hcs, K, kc, rfl, hK⟩ := hrows.get hgx
    have hwx := hwl x hmem
    have hsx := tot_le hmem
    have hRx : RTree (Old w) w (.agg #[.slice K x.nodes.length kc, .int .i64 x.root]) x := ⟨_, rfl, hK⟩
    have hA' : A = some (A.getD default) := hA.some_ (by omega)
    have hm := makeP_is x
    have hwX := makeP_wf hwx
    have hwP := partsP_wf hwx
    have hwW := waysP_wf hwx
    obtain ⟨hp1, hp2⟩ := partsP_tot x
    obtain ⟨hq1, hq2⟩ := waysP_tot x
    have hfp := flat_take (f := partsP) htk
    have hfw := flat_take (f := waysP) htk
    obtain ⟨X, hX⟩ : ∃ y, y = makeP x := ⟨_, rfl⟩
    rw [← hX] at hm hwX
    have hput1 : rightP x = true → putP seqN0 (partsP x) = X := fun h => by rw [hX]; exact put_partsP h
    have hput2 : rightP x = true → putP choN0 (waysP x) = X := fun h => by rw [hX]; exact put_waysP h
    have cX : ∀ w' v, RTree (Old w') w' v x → Tab w' → Calls Tryd.prog 58 #[v] w' (RetTB w' X) := fun w' v hr hT => by rw [hX]; exact make_any v x w' hr hwx hT
    have cP := fun w' v (hr : RTree (Old w') w' v x) (hT : Tab w') => eparts_any v x w' hr hwx hT
    have cW := fun w' v (hr : RTree (Old w') w' v x) (hT : Tab w') => ways_any v x w' hr hwx hT
    generalize hPX : partsP x = PX at *
    generalize hWX : waysP x = WX at *
    generalize ((l.take i).map partsP).flatten = PL at *
    generalize ((l.take i).map waysP).flatten = WL at *
    repeat' (first | (refine W1 ?_) | (refine W2 (fun hc => ?_) (fun hc => ?_)) | (intro _))
    refine T.callR rfl rfl (fun w' hw' => cX w' _ (St.old_tree hw' hRx) (Tab.st hT hw')) (fun q1 _ => ?_)
    cases hrx : rightP x with
    | false =>
      have hX2 : (!X.2) = true := by rw [hm, hrx]; rfl
      repeat' (first | (refine W1 ?_) | (refine W2 (fun hc => ?_) (fun hc => ?_)) | (intro _))
      exact TX.ret_tmp rfl rfl (fun w' hw => RetV.eq hw rfl)
    | true =>
      have hX2 : (!X.2) = false := by rw [hm, hrx]; rfl
      have hX3 : (X.2 && decide (X.1 = X.1)) = true := by rw [hm, hrx]; simp
      have hX4 : (!(X.2 && decide (X.1 = X.1))) = false := by rw [hX3]; rfl
      have hput1 := hput1 hrx
      have hput2 := hput2 hrx
      have hall2 : allR (l.take (i + 1)) = true := by rw [htk]; unfold allR at hall ⊢; rw [List.all_append, hall]; simp [hrx]
      repeat' (first | (refine W1 ?_) | (refine W2 (fun hc => ?_) (fun hc => ?_)) | (intro _))
      rename_i b6
      refine TL.kcallR rfl (fun w' hw' => cP w' _ (St.old_tree hw' hRx) (Tab.st hT hw')) rfl rfl DropA (fun q2 _ => ?_)
      repeat' (first | (refine W1 ?_) | (refine W2 (fun hc => ?_) (fun hc => ?_)) | (intro _))
      refine TL.kcallR rfl (fun w' hw' => cW w' _ (St.old_tree hw' hRx) (Tab.st hT hw')) rfl rfl DropA (fun q3 _ => ?_)
      repeat' (first | (refine W1 ?_) | (refine W2 (fun hc => ?_) (fun hc => ?_)) | (intro _))
      refine T.callR rfl rfl (fun w' hw' => by have h := eseq_any _ PX w' (hTrees_on (hw'.at_all (H := hTrees (.slice q2.1 PX.length q2.2) PX) AtA)) (by unfold bigN; omega) hwP (by unfold bigN; omega) (Tab.st hT hw'); rw [hput1] at h; exact h) (fun q4 _ => ?_)
      repeat' (first | (refine W1 ?_) | (refine W2 (fun hc => ?_) (fun hc => ?_)) | (intro _))
      rename_i b10
      refine T.callR rfl rfl (fun w' hw' => by have h := echoice_any _ WX w' (hTrees_on (hw'.at_all (H := hTrees (.slice q3.1 WX.length q3.2) WX) AtA)) (by unfold bigN; omega) hwW (by unfold bigN; omega) (Tab.st hT hw'); rw [hput2] at h; exact h) (fun q5 _ => ?_)
      repeat' (first | (refine W1 ?_) | (refine W2 (fun hc => ?_) (fun hc => ?_)) | (intro _))
      rename_i b12
      refine T.callV rfl rfl (fun w' hw' => is5_any _ _ X.1 X.1 X.2 w' (St.get_treeN (A := q4.1) (c := q4.2) hw' AtR) (St.get_treeN (A := q1.1) (c := q1.2) hw' AtR) hwX hwX) ?_
      repeat' (first | (refine W1 ?_) | (refine W2 (fun hc => ?_) (fun hc => ?_)) | (intro _))
      refine T.callV rfl rfl (fun w' hw' => is5_any _ _ X.1 X.1 X.2 w' (St.get_treeN (A := q5.1) (c := q5.2) hw' AtR) (St.get_treeN (A := q1.1) (c := q1.2) hw' AtR) hwX hwX) ?_
      repeat' (first | (refine TC.holdR 15 ?_) | (refine W1 ?_) | (refine W2 (fun hc => ?_) (fun hc => ?_)) | (intro _))
      refine ⟨?_⟩
      refine TC.ex (fun w hw => St.openTO (A := q2.1) (c := q2.2) (ts := PX) DelA hw) (fun y2 => ?_)
      obtain ⟨e2, rows2⟩ := y2
      refine TC.ex (fun w hw => St.openTO (A := q3.1) (c := q3.2) (ts := WX) DelA hw) (fun y3 => ?_)
      obtain ⟨e3, rows3⟩ := y3
      refine TC.sub (M' := St w [own e2 2 q2.1 PX.length q2.2 rows2, hSee (rows2.zip PX), own e3 2 q3.1 WX.length q3.2 rows3, hSee (rows3.zip WX), own 24 2 A1 PL.length c1 prow, hSee (prow.zip PL), own 24 2 A2 WL.length c2 wrow, hSee (wrow.zip WL)]) (fun w' hw => ?_) ?_
      · have g1 := St.inc (L' := [hTR rows2 PX, hTR rows3 WX, own e2 2 q2.1 PX.length q2.2 rows2, own e3 2 q3.1 WX.length q3.2 rows3, own 24 2 A1 PL.length c1 prow, hSee (prow.zip PL), own 24 2 A2 WL.length c2 wrow, hSee (wrow.zip WL)]) IncQ hw
        have g2 := St.weak (H' := hSee (rows2.zip PX)) (fun S w h => hSee_TR h) g1
        have g3 := St.weak (H' := hSee (rows3.zip WX)) (fun S w h => hSee_TR h) g2.swap
        exact St.inc IncQ g3
      refine TC.fact (fun w hw => (St.own_arr (A := A1) (n := PL.length) (c := c1) (rows := prow) hw (.there (.there (.there (.there .here))))).1) (fun hpr : prow.length = PL.length => ?_)
      refine TC.fact (fun w hw => (St.own_arr (A := A2) (n := WL.length) (c := c2) (rows := wrow) hw (.there (.there (.there (.there (.there (.there .here))))))).1) (fun hwr : wrow.length = WL.length => ?_)
      have hlp : PL.length + PX.length = (((l.take (i + 1)).map partsP).flatten).length := by rw [hfp, List.length_append]
      have hlw : WL.length + WX.length = (((l.take (i + 1)).map waysP).flatten).length := by rw [hfw, List.length_append]
      repeat' (first | (refine W1 ?_) | (refine W2 (fun hc => ?_) (fun hc => ?_)) | (intro _))
      refine T.append (rows := prow) (news := rows2) rfl rfl rfl DelA (fun w hw => St.own_arr hw AtA) (fun w hw => see_oneB (e := e2) (A := q2.1) (c := q2.2) rfl hw AtA AtA) (by unfold maxLen; omega) (by omega) (fun A4 c4 => ?_)
      rw [hlp]
      repeat' (first | (refine W1 ?_) | (refine W2 (fun hc => ?_) (fun hc => ?_)) | (intro _))
      refine T.append (rows := wrow) (news := rows3) rfl rfl rfl DelA (fun w hw => St.own_arr hw AtA) (fun w hw => see_oneB (e := e3) (A := q3.1) (c := q3.2) rfl hw AtA AtA) (by unfold maxLen; omega) (by omega) (fun A5 c5 => ?_)
      rw [hlw]
      repeat' (first | (refine W1 ?_) | (refine W2 (fun hc => ?_) (fun hc => ?_)) | (intro _))
      refine TX.round (i + 1, ((A4, c4), prow ++ rows2), ((A5, c5), wrow ++ rows3)) ⟨hlt, hall2⟩ (show l.length - (i + 1) < l.length - i by omega) SubA (fun w' hw => ?_)
      dsimp only
      have g1 := St.inc (L' := [hSee (prow.zip PL), hSee (rows2.zip PX), hSee (wrow.zip WL), hSee (rows3.zip WX), own 24 2 A4 (((l.take (i + 1)).map partsP).flatten).length c4 (prow ++ rows2), own 24 2 A5 (((l.take (i + 1)).map waysP).flatten).length c5 (wrow ++ rows3)]) IncQ hw
      have g2 := St.join (K := hSee (prow.zip PL ++ rows2.zip PX)) (fun S S' w h h' => hSee_join h h') g1
      have g3 := St.inc (L' := [hSee (wrow.zip WL), hSee (rows3.zip WX), hSee (prow.zip PL ++ rows2.zip PX), own 24 2 A4 (((l.take (i + 1)).map partsP).flatten).length c4 (prow ++ rows2), own 24 2 A5 (((l.take (i + 1)).map waysP).flatten).length c5 (wrow ++ rows3)]) IncQ g2
      have g4 := St.join (K := hSee (wrow.zip WL ++ rows3.zip WX)) (fun S S' w h h' => hSee_join h h') g3
      rw [← List.zip_append hpr, ← List.zip_append hwr, ← hfp, ← hfw] at g4
      exact St.inc IncQ g4
  · have hck : decide ((i : Int) < (l.length : Int)) = false := by simp; omega
    obtain rfl : i = l.length := by omega
    rw [List.take_of_length_le (Nat.le_refl _)] at hall hpl hwl2 ⊢
    have hPS := parts_of_put hall
    have hWC := ways_of_put (l := l) hall
    have hwS := putP_wf (n := seqN0) seqN0_wf hwl (by unfold bigN; omega)
    have hwC := putP_wf (n := choN0) choN0_wf hwl (by unfold bigN; omega)
    have hS2 : (putP seqN0 l).2 = true := by rw [putP_is, hall]; rfl
    have hC2 : (putP choN0 l).2 = true := by rw [putP_is, hall]; rfl
    have hwP : ∀ x ∈ (l.map partsP).flatten, x.wf := flat_wf fun t ht => partsP_wf (hwl t ht)
    have hwW : ∀ x ∈ (l.map waysP).flatten, x.wf := flat_wf fun t ht => waysP_wf (hwl t ht)
    have cS : ∀ w' v, RTrees (Old w') w' v l → Tab w' → Calls Tryd.prog 55 #[v] w' (RetTB w' (putP seqN0 l)) := fun w' v hr hT => eseq_any v l w' hr (by unfold bigN; omega) hwl (by unfold bigN; omega) hT
    have cC : ∀ w' v, RTrees (Old w') w' v l → Tab w' → Calls Tryd.prog 57 #[v] w' (RetTB w' (putP choN0 l)) := fun w' v hr hT => echoice_any v l w' hr (by unfold bigN; omega) hwl (by unfold bigN; omega) hT
    have cP : ∀ w' v, RTree (Old w') w' v (putP seqN0 l).1 → Tab w' → Calls Tryd.prog 59 #[v] w' (RetTs w' ((l.map partsP).flatten)) := fun w' v hr hT => by rw [← hPS]; exact eparts_any v _ w' hr hwS hT
    have cW : l ≠ [] → ∀ w' v, RTree (Old w') w' v (putP choN0 l).1 → Tab w' → Calls Tryd.prog 60 #[v] w' (RetTs w' ((l.map waysP).flatten)) := fun hne w' v hr hT => by rw [← hWC hne]; exact ways_any v _ w' hr hwC hT
    clear hPS hWC
    generalize putP seqN0 l = S at *
    generalize putP choN0 l = C at *
    generalize (l.map partsP).flatten = PL at *
    generalize (l.map waysP).flatten = WL at *
    have k1 : (!S.2) = false := by rw [hS2]; rfl
    have k2 : (!C.2) = false := by rw [hC2]; rfl
    have k3 : (!decide (PL = PL)) = false := by simp
    repeat' (first | (refine W1 ?_) | (refine W2 (fun hc => ?_) (fun hc => ?_)) | (intro _))
    refine T.callR rfl rfl (fun w' hw' => cS w' _ (St.old_trees hw' hr0) (Tab.st hT hw')) (fun q1 _ => ?_)
    repeat' (first | (refine W1 ?_) | (refine W2 (fun hc => ?_) (fun hc => ?_)) | (intro _))
    rename_i b14
    refine T.callR rfl rfl (fun w' hw' => cC w' _ (St.old_trees hw' hr0) (Tab.st hT hw')) (fun q2 _ => ?_)
    repeat' (first | (refine W1 ?_) | (refine W2 (fun hc => ?_) (fun hc => ?_)) | (intro _))
    rename_i b16
    refine T.callR rfl rfl (fun w' hw' => cP w' _ (St.get_treeN (A := q1.1) (c := q1.2) hw' AtR) (Tab.st hT hw')) (fun q3 _ => ?_)
    repeat' (first | (refine W1 ?_) | (refine W2 (fun hc => ?_) (fun hc => ?_)) | (intro _))
    refine T.callV rfl rfl (fun w' hw' => exacts_any _ _ PL PL w' (hTrees_on (hw'.at_all (H := hTrees (.slice q3.1 PL.length q3.2) PL) AtA)) (RTrees.see (e := 24) (A := A1) (c := c1) (rows := prow) (K := prow.zip PL) rfl hw' AtA AtA (fun _ h => h)) (by unfold bigN; omega) (by unfold bigN; omega) hwP hwP) ?_
    by_cases hl0 : l.length = 0
    · have hd : decide ((l.length : Int) = 0) = true := by simp [hl0]
      repeat' (first | (refine W1 ?_) | (refine W2 (fun hc => ?_) (fun hc => ?_)) | (intro _))
      exact TX.ret_tmp rfl rfl (fun w' hw => RetV.eq hw rfl)
    · have hd : decide ((l.length : Int) = 0) = false := decide_eq_false (by omega)
      have hne : l ≠ [] := fun e => hl0 (by rw [e]; rfl)
      repeat' (first | (refine W1 ?_) | (refine W2 (fun hc => ?_) (fun hc => ?_)) | (intro _))
      refine T.callR rfl rfl (fun w' hw' => cW hne w' _ (St.get_treeN (A := q2.1) (c := q2.2) hw' AtR) (Tab.st hT hw')) (fun q4 _ => ?_)
      repeat' (first | (refine W1 ?_) | (refine W2 (fun hc => ?_) (fun hc => ?_)) | (intro _))
      refine T.callV rfl rfl (fun w' hw' => exacts_any _ _ WL WL w' (hTrees_on (hw'.at_all (H := hTrees (.slice q4.1 WL.length q4.2) WL) AtA)) (RTrees.see (e := 24) (A := A2) (c := c2) (rows := wrow) (K := wrow.zip WL) rfl hw' AtA AtA (fun _ h => h)) (by unfold bigN; omega) (by unfold bigN; omega) hwW hwW) ?_
      repeat' (first | (refine W1 ?_) | (refine W2 (fun hc => ?_) (fun hc => ?_)) | (intro _))
      exact TX.ret_tmp rfl rfl (fun w' hw => RetV.eq hw (congrArg Value.bool (decide_eq_true rfl)))
end Go.Proofs.YtlhkkngpppcfoaaDoor
