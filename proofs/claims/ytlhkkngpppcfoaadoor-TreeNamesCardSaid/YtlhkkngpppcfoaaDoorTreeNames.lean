/-
  The closed law TreeNames, walked: it answers true.
-/
import Derived.Test.YtlhkkngpppcfoaaDoorNamesP
import Derived.Test.YtlhkkngpppcfoaaDoorTreeTells
set_option linter.all false
namespace Go.Bonsai
open Go Go.Sl Go.RowKit
theorem RTrees.ownTR {w0 w : World} {L : List HP} {e n c : Nat} {A : Option Addr} {rows : List (List Value)} {ts : List Tre} (hl : ts.length = n) (h : St w0 L w) (ha : At L (own e 2 A n c rows)) (hb : At L (hTR rows ts)) : RTrees (Old w) w (.slice A n c) ts := by
  subst hl
  exact ⟨A, c, rows, rfl, St.own_arr h ha, hTR_all (h.at_all hb), own.cap (h.at_all ha)⟩
theorem All2.cons {α β : Type} {R : α → β → Prop} {a : α} {b : β} {l : List α} {m : List β} (h : R a b) (hh : All2 R l m) : All2 R (a :: l) (b :: m) := by
  refine ⟨by simp [hh.1], fun i x y hx hy => ?_⟩
  cases i with
  | zero => simp at hx hy; subst hx; subst hy; exact h
  | succ i => exact hh.2 i x y (by simpa using hx) (by simpa using hy)
theorem Sep.arrA {S : Nat → Prop} {w : World} {L : List HP} {e sz n c : Nat} {A : Option Addr} {rows : List (List Value)} (h : Sep L S w) (ha : At L (own e sz A n c rows)) : Arr sz S w A n rows :=
  let ⟨_, h1, h2⟩ := h.at_ ha
  (own.arr h2).mono h1
theorem St.get_ttN {w0 w : World} {L : List HP} {A K : Option Addr} {n c kc i : Nat} {rows : List (List Value)} {ts : List Tre} {t : Tre} (h : St w0 L w) (ha : At L (hTT A n c rows ts)) (ht : ts[i]? = some t) (hr : rows[i]? = some [.slice K t.nodes.length kc, .int .i64 t.root]) :
    RNodes (Old w) w (.slice K t.nodes.length kc) t.nodes := by
  obtain ⟨A', c', e, hn⟩ := (h.at_all ha).2.1.2 i _ t hr ht
  simp only [List.cons.injEq, and_true] at e
  rw [e]
  exact hn
end Go.Bonsai
namespace Go.Proofs.YtlhkkngpppcfoaaDoor
open Go Go.Sl Go.RowKit Go.Bonsai
set_option linter.unusedVariables false
set_option linter.unusedSimpArgs false

def namesXs : List Operand := [.tmp 91, .tmp 93, .tmp 95, .tmp 98, .tmp 100, .tmp 102, .tmp 105, .tmp 107, .tmp 109, .tmp 111, .tmp 114, .tmp 117, .tmp 120, .tmp 122, .tmp 124, .tmp 126, .tmp 128, .tmp 130, .tmp 132, .tmp 134, .tmp 136, .tmp 138, .tmp 140, .tmp 142, .tmp 144, .tmp 146, .tmp 148, .tmp 150, .tmp 152, .tmp 154, .tmp 156, .tmp 158, .tmp 160, .tmp 162, .tmp 164, .tmp 166, .tmp 168, .tmp 170, .tmp 172]
theorem AtB {p : Prop} (h : p := by repeat (first | exact At.here | apply At.there)) : p := h
set_option maxHeartbeats 4000000 in
set_option maxRecDepth 100000 in
theorem treeNames_any (w : World) (hT : Tab w) : Calls Tryd.prog 7 #[] w (RetV w (.bool true)) := by
  refine TC.calls (l := []) Tryd.func7 rfl Tryd.ntmps7 rfl (St.start w) ?_
  obtain ⟨N31, hN31⟩ : ∃ x, x = notsP 31 := ⟨_, rfl⟩
  obtain ⟨N32, hN32⟩ : ∃ x, x = notsP 32 := ⟨_, rfl⟩
  have w31 : N31.wf := by rw [hN31]; exact notsP_wf 31 (by decide)
  have w32 : N32.wf := by rw [hN32]; exact notsP_wf 32 (by decide)
  have m31 : (!mayP N31) = false := by rw [hN31, nots_may 31 (by decide)]; rfl
  have m32 : mayP N32 = false := by rw [hN32, nots_may 32 (by decide)]; rfl
  have d31 : (!decide (depthP N31 = 32)) = false := by rw [hN31, nots_depth]; rfl
  repeat' (first | (refine W1 ?_) | (refine W2 (fun hc => ?_) (fun hc => ?_)) | (intro _) | (apply T.callV (f := 16); (exact rfl); (exact rfl); (intro w' hw'; apply works_any; (exact Tab.st hT hw'))) | (apply TL.kcallV (f := 16); (exact rfl); (intro w' hw'; apply works_any; (exact Tab.st hT hw')); (exact rfl); (exact rfl); (exact DropA)))
  refine T.callR rfl rfl (fun w' hw' => by have h := nots_any 31 w' (by decide) (Tab.st hT hw'); rw [← hN31] at h; exact h) (fun p1 _ => ?_)
  repeat' (first | (refine W1 ?_) | (refine W2 (fun hc => ?_) (fun hc => ?_)) | (intro _) | (apply T.callV (f := 39); (exact rfl); (exact rfl); (intro w' hw'; apply may_any; (first | exact St.old_tree hw' (by assumption) | exact St.get_treeN hw' AtA | exact St.get_tt hw' AtA (by assumption) (by assumption)); (assumption); (exact Tab.st hT hw'))) | (apply TL.kcallV (f := 39); (exact rfl); (intro w' hw'; apply may_any; (first | exact St.old_tree hw' (by assumption) | exact St.get_treeN hw' AtA | exact St.get_tt hw' AtA (by assumption) (by assumption)); (assumption); (exact Tab.st hT hw')); (exact rfl); (exact rfl); (exact DropA)))
  refine T.callR rfl rfl (fun w' hw' => by have h := nots_any 32 w' (by decide) (Tab.st hT hw'); rw [← hN32] at h; exact h) (fun p2 _ => ?_)
  repeat' (first | (refine W1 ?_) | (refine W2 (fun hc => ?_) (fun hc => ?_)) | (intro _) | (apply T.callV (f := 39); (exact rfl); (exact rfl); (intro w' hw'; apply may_any; (first | exact St.old_tree hw' (by assumption) | exact St.get_treeN hw' AtA | exact St.get_tt hw' AtA (by assumption) (by assumption)); (assumption); (exact Tab.st hT hw'))) | (apply TL.kcallV (f := 39); (exact rfl); (intro w' hw'; apply may_any; (first | exact St.old_tree hw' (by assumption) | exact St.get_treeN hw' AtA | exact St.get_tt hw' AtA (by assumption) (by assumption)); (assumption); (exact Tab.st hT hw')); (exact rfl); (exact rfl); (exact DropA)))
  refine T.callR rfl rfl (fun w' hw' => by have h := nots_any 31 w' (by decide) (Tab.st hT hw'); rw [← hN31] at h; exact h) (fun p3 _ => ?_)
  repeat' (first | (refine W1 ?_) | (refine W2 (fun hc => ?_) (fun hc => ?_)) | (intro _) | (apply T.callV (f := 36); (exact rfl); (exact rfl); (intro w' hw'; apply depth_any; (first | exact St.old_tree hw' (by assumption) | exact St.get_treeN hw' AtA | exact St.get_tt hw' AtA (by assumption) (by assumption)); (assumption); (exact Tab.st hT hw'))) | (apply TL.kcallV (f := 36); (exact rfl); (intro w' hw'; apply depth_any; (first | exact St.old_tree hw' (by assumption) | exact St.get_treeN hw' AtA | exact St.get_tt hw' AtA (by assumption) (by assumption)); (assumption); (exact Tab.st hT hw')); (exact rfl); (exact rfl); (exact DropA)))
  refine TC.loopA (ι := (Option Addr × Nat) × Nat × List (List Value)) ((none, 0), 0, []) (fun k r => (1, .slice k.1.1 k.2.1 k.1.2) :: (2, .int .i64 k.2.1) :: r)
    (fun k => St w [own 24 2 k.1.1 k.2.1 k.1.2 k.2.2, hTR k.2.2 (List.replicate k.2.1 aT)]) (fun k => k.2.1 ≤ 1023) (fun k => 1023 - k.2.1) KpA SubA
    (fun w' hw => St.inc IncA (St.own_nil (e := 24) (sz := 2) (St.trs_nil hw))) (Nat.zero_le _) ?_
  rintro ⟨⟨A, c⟩, i, rows⟩ hi
  simp only at hi ⊢
  by_cases hlt : i < 1023
  · have hck : decide ((i : Int) < 1023) = true := by simp; omega
    have htk : List.replicate (i + 1) aT = List.replicate i aT ++ [aT] := List.replicate_succ'
    repeat' (first | (refine W1 ?_) | (refine W2 (fun hc => ?_) (fun hc => ?_)) | (intro _))
    refine T.callR rfl rfl (fun w' hw' => tree_text ⟨#[97]⟩ w') (fun p _ => ?_)
    repeat' (first | (refine W1 ?_) | (refine W2 (fun hc => ?_) (fun hc => ?_)) | (intro _))
    refine T.append (rows := rows) (news := [[.slice p.1 aT.nodes.length p.2, .int .i64 aT.root]]) rfl rfl rfl DelA (fun w hw => St.own_arr hw AtA) (fun _ _ r hr => by simp at hr; subst hr; rfl) (by unfold maxLen; omega) (by omega) (fun A7 c7 => ?_)
    repeat' (first | (refine W1 ?_) | (refine W2 (fun hc => ?_) (fun hc => ?_)) | (intro _))
    refine TX.round ((A7, c7), i + 1, rows ++ [[.slice p.1 aT.nodes.length p.2, .int .i64 aT.root]]) hlt (show 1023 - (i + 1) < 1023 - i by omega) SubA (fun w' hw => ?_)
    have h0 := St.del (H := hTR rows (List.replicate i aT)) DelA hw
    have h1 := St.del (H := hNodes (.slice p.1 aT.nodes.length p.2) aT.nodes) DelA h0
    have h2 := St.joinX (K := hTR (rows ++ [[.slice p.1 aT.nodes.length p.2, .int .i64 aT.root]]) (List.replicate (i + 1) aT)) (fun S S' w h h' hd => by rw [htk]; exact hTR_snoc h h' hd) h1
    exact St.inc IncA h2
  have hck : decide ((i : Int) < 1023) = false := by simp; omega
  obtain rfl : i = 1023 := by omega
  rw [show List.replicate 1023 aT = l1 from rfl]
  obtain ⟨X1, hX1⟩ : ∃ x, x = ofP choiceN l1 := ⟨_, rfl⟩
  obtain ⟨X2, hX2⟩ : ∃ x, x = ofP choiceN l2 := ⟨_, rfl⟩
  have k1 : (!X1.2) = false := by rw [hX1, ok1]; rfl
  have k2 : (!X2.2) = false := by rw [hX2, ok2]; rfl
  have k3 : (!mayP X1.1) = false := by rw [hX1, may1]; rfl
  have k4 : mayP X2.1 = false := by rw [hX2]; exact may2
  have k5 : (!rightP X2.1) = false := by rw [hX2, right2]; rfl
  have k6 : (!decide (sizeP X2.1 = 1025)) = false := by rw [hX2, size2]; rfl
  have hx1 : X1.1.wf := by rw [hX1]; exact ofP_wf choiceN_wf l1_wf tot1
  have hx2 : X2.1.wf := by rw [hX2]; exact ofP_wf choiceN_wf l2_wf tot2
  have hlen1 : l1.length = 1023 := List.length_replicate
  have hlen2 : l2.length = 1024 := by unfold l2; rw [List.length_append, List.length_replicate]; rfl
  repeat' (first | (refine W1 ?_) | (refine W2 (fun hc => ?_) (fun hc => ?_)) | (intro _))
  refine T.callR rfl rfl (fun w' hw' => by have h := of_any choiceN (.slice none 0 0) (.slice A 1023 c) l1 w' choiceN_wf (RTrees.ownTR (e := 24) (rows := rows) hlen1 hw' AtA AtA) (by unfold bigN; omega) l1_wf tot1 (Tab.st hT hw'); rw [← hX1] at h; exact h) (fun q1 _ => ?_)
  repeat' (first | (refine W1 ?_) | (refine W2 (fun hc => ?_) (fun hc => ?_)) | (intro _))
  rename_i b3
  refine T.callR rfl rfl (fun w' hw' => tree_empty w') (fun pe _ => ?_)
  repeat' (first | (refine W1 ?_) | (refine W2 (fun hc => ?_) (fun hc => ?_)) | (intro _))
  refine T.append (rows := rows) (news := [[.slice pe.1 eT.nodes.length pe.2, .int .i64 eT.root]]) rfl rfl rfl DelA (fun w hw => St.own_arr hw AtA) (fun _ _ r hr => by simp at hr; subst hr; rfl) (by unfold maxLen; omega) (by omega) (fun A8 c8 => ?_)
  refine T.sub (M' := St w [hTR (rows ++ [[.slice pe.1 eT.nodes.length pe.2, .int .i64 eT.root]]) l2, own 24 2 A8 1024 c8 (rows ++ [[.slice pe.1 eT.nodes.length pe.2, .int .i64 eT.root]]), blk b3 [.slice q1.1 X1.1.nodes.length q1.2, .int .i64 X1.1.root] 24, hNodes (.slice q1.1 X1.1.nodes.length q1.2) X1.1.nodes]) (fun w hw => ?_) ?_
  · have h0 := St.del (H := hTR rows l1) DelA hw
    have h1 := St.del (H := hNodes (.slice pe.1 eT.nodes.length pe.2) eT.nodes) DelA h0
    have h2 := St.joinX (K := hTR (rows ++ [[.slice pe.1 eT.nodes.length pe.2, .int .i64 eT.root]]) l2) (fun S S' w h h' hd => hTR_snoc h h' hd) h1
    exact St.inc IncA h2
  repeat' (first | (refine W1 ?_) | (refine W2 (fun hc => ?_) (fun hc => ?_)) | (intro _))
  refine T.callR rfl rfl (fun w' hw' => by have h := of_any choiceN (.slice none 0 0) (.slice A8 1024 c8) l2 w' choiceN_wf (RTrees.ownTR (e := 24) (rows := rows ++ [[.slice pe.1 eT.nodes.length pe.2, .int .i64 eT.root]]) hlen2 hw' AtA AtA) (by unfold bigN; omega) l2_wf tot2 (Tab.st hT hw'); rw [← hX2] at h; exact h) (fun q2 _ => ?_)
  repeat' (first | (refine W1 ?_) | (refine W2 (fun hc => ?_) (fun hc => ?_)) | (intro _) | (apply T.callV (f := 39); (exact rfl); (exact rfl); (intro w' hw'; apply may_any; (first | exact St.old_tree hw' (by assumption) | exact St.get_treeN hw' AtA | exact St.get_tt hw' AtA (by assumption) (by assumption)); (assumption); (exact Tab.st hT hw'))) | (apply TL.kcallV (f := 39); (exact rfl); (intro w' hw'; apply may_any; (first | exact St.old_tree hw' (by assumption) | exact St.get_treeN hw' AtA | exact St.get_tt hw' AtA (by assumption) (by assumption)); (assumption); (exact Tab.st hT hw')); (exact rfl); (exact rfl); (exact DropA)) | (apply T.callV (f := 19); (exact rfl); (exact rfl); (intro w' hw'; apply right_any; (first | exact St.old_tree hw' (by assumption) | exact St.get_treeN hw' AtA | exact St.get_tt hw' AtA (by assumption) (by assumption)); (assumption); (exact Tab.st hT hw'))) | (apply TL.kcallV (f := 19); (exact rfl); (intro w' hw'; apply right_any; (first | exact St.old_tree hw' (by assumption) | exact St.get_treeN hw' AtA | exact St.get_tt hw' AtA (by assumption) (by assumption)); (assumption); (exact Tab.st hT hw')); (exact rfl); (exact rfl); (exact DropA)) | (apply T.callV (f := 35); (exact rfl); (exact rfl); (intro w' hw'; apply size_any; (first | exact St.old_tree hw' (by assumption) | exact St.get_treeN hw' AtA | exact St.get_tt hw' AtA (by assumption) (by assumption)); (assumption); (exact Tab.st hT hw'))) | (apply TL.kcallV (f := 35); (exact rfl); (intro w' hw'; apply size_any; (first | exact St.old_tree hw' (by assumption) | exact St.get_treeN hw' AtA | exact St.get_tt hw' AtA (by assumption) (by assumption)); (assumption); (exact Tab.st hT hw')); (exact rfl); (exact rfl); (exact DropA)))
  refine T.sub (M' := St w []) (fun w hw => St.inc .nil hw) ?_
  clear k1 k2 k3 k4 k5 k6 hx1 hx2 hlen1 hlen2 hX1 hX2 m31 m32 d31 w31 w32 hN31 hN32 hck hlt
  repeat' (first | (apply T.ev_; exact rfl; apply Ev.build_arr (cs := #[.int .u64 1, .int .u64 0, .int .u64 0, .int .u64 0]); exact rfl; exact rfl) | (refine W1 ?_) | (refine W2 (fun hc => ?_) (fun hc => ?_)) | (intro _))
  rename_i b7 _
  refine TL.kcallV rfl (fun w' hw' => copies_any xB 255 w' (by decide) (by decide)) rfl rfl DropA ?_
  repeat' (first | (refine W1 ?_) | (refine W2 (fun hc => ?_) (fun hc => ?_)) | (intro _))
  refine TL.kcallV rfl (fun w' hw' => copies_any xB 256 w' (by decide) (by decide)) rfl rfl DropA ?_
  repeat' (first | (refine W1 ?_) | (refine W2 (fun hc => ?_) (fun hc => ?_)) | (intro _))
  apply TL.keep
  · exact rfl
  · exact rfl
  · exact DropA
  · apply Ac.lit (xs := namesXs) (rows := namesTab.map fun e => e.1.cells (.slice none 0 0) ++ [.int .i64 e.2.1, .bool e.2.2])
    case hps => exact rfl
    case hvs => exact rfl
    case hm' => exact rfl
    case hr => exact rfl
    case hsz => exact all_sz rfl
    case hb =>
      show 39 * 11 ≤ 16777216
      decide
  · exact fun _ _ h => h.drop 1
  intro B
  repeat' (first | (refine W1 ?_) | (refine W2 (fun hc => ?_) (fun hc => ?_)) | (intro _))
  refine TC.loopA (ι := Nat) 0 (fun i r => (175, .int .i64 i) :: r) (fun _ => St w [own 54 11 (some ⟨B, 0, none⟩) 39 39 (namesTab.map fun e => e.1.cells (.slice none 0 0) ++ [.int .i64 e.2.1, .bool e.2.2])])
    (fun i => i ≤ 39) (fun i => 39 - i) KpA SubA (fun w' hw => St.inc IncA hw) (Nat.zero_le _) ?_
  intro i hi
  by_cases hlt : i < 39
  · have hck : decide ((i : Int) < ((39 : Nat) : Int)) = true := by simp; omega
    have hin : i < namesTab.length := by simpa [namesTab] using hlt
    have hrow : (namesTab.map fun e => e.1.cells (.slice none 0 0) ++ [.int .i64 e.2.1, .bool e.2.2])[i]? = some ((namesTab[i]).1.cells (.slice none 0 0) ++ [.int .i64 (namesTab[i]).2.1, .bool (namesTab[i]).2.2]) := by
      rw [List.getElem?_map, List.getElem?_eq_getElem hin]; rfl
    have hf := namesTab_fits _ (List.getElem_mem hin)
    have hwf := okN_wf (namesTab_wf _ (List.getElem_mem hin))
    generalize (namesTab.map fun e => e.1.cells (.slice none 0 0) ++ [.int .i64 e.2.1, .bool e.2.2]) = rowsT at *
    generalize namesTab[i] = e at *
    obtain ⟨n, cnt, fb⟩ := e
    simp only at hf hwf hrow
    have hq : (!(fits n cnt == fb)) = false := by rw [hf]; simp
    repeat' (first | (refine W1 ?_) | (refine W2 (fun hc => ?_) (fun hc => ?_)) | (intro _))
    refine TL.kcallV rfl (fun w' hw' => fits_any n (.slice none 0 0) cnt w' (Tab.st hT hw') hwf) rfl rfl DropA ?_
    repeat' (first | (refine W1 ?_) | (refine W2 (fun hc => ?_) (fun hc => ?_)) | (intro _))
    exact TX.round (i + 1) hlt (by omega) SubA (fun w' hw => St.inc IncA hw)
  have hck : decide ((i : Int) < ((39 : Nat) : Int)) = false := by simp; omega
  refine TC.sub (M' := St w []) (fun w hw => St.inc .nil hw) ?_
  repeat' (first | (refine W1 ?_) | (refine W2 (fun hc => ?_) (fun hc => ?_)) | (intro _))
  rename_i B188 b10 B193 B196 B200 B203 B207 B211 B213 B216 B218 B221 B223 B226 B228
  apply T.lit (xs := [.tmp 190, .tmp 191, .tmp 194, .tmp 197, .tmp 201, .tmp 204, .tmp 208, .tmp 214, .tmp 219, .tmp 224, .tmp 229]) (rows := [[.slice none 0 0, .int .i64 0], [.slice none 0 0, .int .i64 (-1)], [.slice (some ⟨B193, 0, none⟩) 1 1, .int .i64 1], [.slice (some ⟨B196, 0, none⟩) 1 1, .int .i64 (-1)], [.slice (some ⟨B200, 0, none⟩) 2 2, .int .i64 1], [.slice (some ⟨B203, 0, none⟩) 1 1, .int .i64 0], [.slice (some ⟨B207, 0, none⟩) 2 2, .int .i64 0], [.slice (some ⟨B213, 0, none⟩) 3 3, .int .i64 2], [.slice (some ⟨B218, 0, none⟩) 2 2, .int .i64 1], [.slice (some ⟨B223, 0, none⟩) 2 2, .int .i64 1], [.slice (some ⟨B228, 0, none⟩) 2 2, .int .i64 1]])
  case hd => exact rfl
  case hps => exact rfl
  case hvs => exact rfl
  case hm' => exact rfl
  case hr => exact rfl
  case hsz => exact all_sz rfl
  case hb =>
    show 11 * 2 ≤ 16777216
    decide
  intro B
  refine T.sub (M' := St w [hTT (some ⟨B, 0, none⟩) 11 11 ([[.slice none 0 0, .int .i64 0], [.slice none 0 0, .int .i64 (-1)], [.slice (some ⟨B193, 0, none⟩) 1 1, .int .i64 1], [.slice (some ⟨B196, 0, none⟩) 1 1, .int .i64 (-1)], [.slice (some ⟨B200, 0, none⟩) 2 2, .int .i64 1], [.slice (some ⟨B203, 0, none⟩) 1 1, .int .i64 0], [.slice (some ⟨B207, 0, none⟩) 2 2, .int .i64 0], [.slice (some ⟨B213, 0, none⟩) 3 3, .int .i64 2], [.slice (some ⟨B218, 0, none⟩) 2 2, .int .i64 1], [.slice (some ⟨B223, 0, none⟩) 2 2, .int .i64 1], [.slice (some ⟨B228, 0, none⟩) 2 2, .int .i64 1]]) badT]) (fun w hw => ?_) ?_
  · exact ⟨hw.below, _, fun _ h => h, ⟨Sep.arrA hw.sep AtB, (All2.cons ⟨none, 0, rfl, none, 0, [], rfl, Arr.nil, .nil, Nat.le_refl _⟩
      (All2.cons ⟨none, 0, rfl, none, 0, [], rfl, Arr.nil, .nil, Nat.le_refl _⟩
      (All2.cons ⟨some ⟨B193, 0, none⟩, 1, rfl, some ⟨B193, 0, none⟩, 1, [zN.cells (.slice none 0 0)], rfl, Sep.arrA hw.sep AtB, (All2.cons (RNode.leaf rfl) .nil), Nat.le_refl _⟩
      (All2.cons ⟨some ⟨B196, 0, none⟩, 1, rfl, some ⟨B196, 0, none⟩, 1, [zN.cells (.slice none 0 0)], rfl, Sep.arrA hw.sep AtB, (All2.cons (RNode.leaf rfl) .nil), Nat.le_refl _⟩
      (All2.cons ⟨some ⟨B200, 0, none⟩, 2, rfl, some ⟨B200, 0, none⟩, 2, [zN.cells (.slice none 0 0), zN.cells (.slice none 0 0)], rfl, Sep.arrA hw.sep AtB, (All2.cons (RNode.leaf rfl) (All2.cons (RNode.leaf rfl) .nil)), Nat.le_refl _⟩
      (All2.cons ⟨some ⟨B203, 0, none⟩, 1, rfl, some ⟨B203, 0, none⟩, 1, [(notK [0]).cells (.slice (some ⟨B188, 0, none⟩) 1 1)], rfl, Sep.arrA hw.sep AtB, (All2.cons ⟨.slice (some ⟨B188, 0, none⟩) 1 1, rfl, some ⟨B188, 0, none⟩, 1, rfl, Sep.arrA (rows := irows [0]) hw.sep AtB, Nat.le_refl _⟩ .nil), Nat.le_refl _⟩
      (All2.cons ⟨some ⟨B207, 0, none⟩, 2, rfl, some ⟨B207, 0, none⟩, 2, [zN.cells (.slice none 0 0), (notK [0]).cells (.slice (some ⟨B188, 0, none⟩) 1 1)], rfl, Sep.arrA hw.sep AtB, (All2.cons (RNode.leaf rfl) (All2.cons ⟨.slice (some ⟨B188, 0, none⟩) 1 1, rfl, some ⟨B188, 0, none⟩, 1, rfl, Sep.arrA (rows := irows [0]) hw.sep AtB, Nat.le_refl _⟩ .nil)), Nat.le_refl _⟩
      (All2.cons ⟨some ⟨B213, 0, none⟩, 3, rfl, some ⟨B213, 0, none⟩, 3, [zN.cells (.slice none 0 0), (notK [0]).cells (.slice (some ⟨B188, 0, none⟩) 1 1), (seqK [1, 0]).cells (.slice (some ⟨B211, 0, none⟩) 2 2)], rfl, Sep.arrA hw.sep AtB, (All2.cons (RNode.leaf rfl) (All2.cons ⟨.slice (some ⟨B188, 0, none⟩) 1 1, rfl, some ⟨B188, 0, none⟩, 1, rfl, Sep.arrA (rows := irows [0]) hw.sep AtB, Nat.le_refl _⟩ (All2.cons ⟨.slice (some ⟨B211, 0, none⟩) 2 2, rfl, some ⟨B211, 0, none⟩, 2, rfl, Sep.arrA (rows := irows [1, 0]) hw.sep AtB, Nat.le_refl _⟩ .nil))), Nat.le_refl _⟩
      (All2.cons ⟨some ⟨B218, 0, none⟩, 2, rfl, some ⟨B218, 0, none⟩, 2, [zN.cells (.slice none 0 0), (seqK [0, 0]).cells (.slice (some ⟨B216, 0, none⟩) 2 2)], rfl, Sep.arrA hw.sep AtB, (All2.cons (RNode.leaf rfl) (All2.cons ⟨.slice (some ⟨B216, 0, none⟩) 2 2, rfl, some ⟨B216, 0, none⟩, 2, rfl, Sep.arrA (rows := irows [0, 0]) hw.sep AtB, Nat.le_refl _⟩ .nil)), Nat.le_refl _⟩
      (All2.cons ⟨some ⟨B223, 0, none⟩, 2, rfl, some ⟨B223, 0, none⟩, 2, [zN.cells (.slice none 0 0), (notK [-1]).cells (.slice (some ⟨B221, 0, none⟩) 1 1)], rfl, Sep.arrA hw.sep AtB, (All2.cons (RNode.leaf rfl) (All2.cons ⟨.slice (some ⟨B221, 0, none⟩) 1 1, rfl, some ⟨B221, 0, none⟩, 1, rfl, Sep.arrA (rows := irows [-1]) hw.sep AtB, Nat.le_refl _⟩ .nil)), Nat.le_refl _⟩
      (All2.cons ⟨some ⟨B228, 0, none⟩, 2, rfl, some ⟨B228, 0, none⟩, 2, [zN.cells (.slice none 0 0), (notK [1]).cells (.slice (some ⟨B226, 0, none⟩) 1 1)], rfl, Sep.arrA hw.sep AtB, (All2.cons (RNode.leaf rfl) (All2.cons ⟨.slice (some ⟨B226, 0, none⟩) 1 1, rfl, some ⟨B226, 0, none⟩, 1, rfl, Sep.arrA (rows := irows [1]) hw.sep AtB, Nat.le_refl _⟩ .nil)), Nat.le_refl _⟩
      .nil))))))))))), Nat.le_refl _⟩, trivial⟩
  generalize hRB : ([[.slice none 0 0, .int .i64 0], [.slice none 0 0, .int .i64 (-1)], [.slice (some ⟨B193, 0, none⟩) 1 1, .int .i64 1], [.slice (some ⟨B196, 0, none⟩) 1 1, .int .i64 (-1)], [.slice (some ⟨B200, 0, none⟩) 2 2, .int .i64 1], [.slice (some ⟨B203, 0, none⟩) 1 1, .int .i64 0], [.slice (some ⟨B207, 0, none⟩) 2 2, .int .i64 0], [.slice (some ⟨B213, 0, none⟩) 3 3, .int .i64 2], [.slice (some ⟨B218, 0, none⟩) 2 2, .int .i64 1], [.slice (some ⟨B223, 0, none⟩) 2 2, .int .i64 1], [.slice (some ⟨B228, 0, none⟩) 2 2, .int .i64 1]] : List (List Value)) = rowsB at *
  clear hRB
  repeat' (first | (refine W1 ?_) | (refine W2 (fun hc => ?_) (fun hc => ?_)) | (intro _))
  refine TC.loopA (ι := Nat) 0 (fun i r => (232, .int .i64 i) :: r) (fun _ => St w [hTT (some ⟨B, 0, none⟩) 11 11 rowsB badT]) (fun i => i ≤ 11) (fun i => 11 - i) KpA SubA (fun w' hw => St.inc IncA hw) (Nat.zero_le _) ?_
  intro j hj
  by_cases hlt2 : j < 11
  · have hck2 : decide ((j : Int) < ((11 : Nat) : Int)) = true := by simp; omega
    have hin : j < badT.length := hlt2
    have hbi : badT[j]? = some badT[j] := List.getElem?_eq_getElem hin
    have hno := badT_no _ (List.getElem_mem hin)
    have hwt := badT_wf _ (List.getElem_mem hin)
    have hln := (badT_ok _ (List.getElem_mem hin)).2.1
    generalize badT[j] = t at *
    generalize badT = ts at *
    refine TC.ex (M' := fun (_ : { x : Option Addr × Nat // rowsB[j]? = some [.slice x.1 t.nodes.length x.2, .int .i64 t.root] }) => St w [hTT (some ⟨B, 0, none⟩) 11 11 rowsB ts]) (fun w hw => ?_) (fun x => ?_)
    · obtain ⟨cs, hcs, K, kc, rfl, _⟩ := (hw.at_all (H := hTT (some ⟨B, 0, none⟩) 11 11 rowsB ts) .here).2.1.get hbi
      exact ⟨⟨(K, kc), hcs⟩, hw⟩
    obtain ⟨⟨K, kc⟩, hrow⟩ := x
    simp only at hrow
    have hnr : ¬ rightP t = true := by rw [hno]; simp
    have f2 : mayP t = false := by unfold mayP; rw [hno]; simp
    have f3 : (subP t 0).2 = false := by rw [subP_no (fun h => hnr h.1)]
    have f4 : (ofP andN [t]).2 = false := by rw [ofP_is]; simp [allR, hno]
    have f5 : (!decide (sizeP t = 0)) = false := by unfold sizeP; rw [if_neg hnr]; rfl
    have f6 : (!decide (depthP t = 0)) = false := by unfold depthP; rw [if_neg hnr]; rfl
    have f7 : (!decide (((walkP t).length : Int) = 0)) = false := by unfold walkP; rw [if_neg hnr]; rfl
    have f8 : (!decide (((kidsP t).length : Int) = 0)) = false := by unfold kidsP; rw [if_neg hnr]; rfl
    have f9 : (!decide (((cleanP t).nodes.length : Int) = 0)) = false := by rw [cleanP_no hno]; rfl
    have f10 : sameP t t = false := by rw [same_self, hno]
    have f11 : (!decide ((rootP t).kind = 0)) = false := by unfold rootP; rw [if_neg hnr]; rfl
    have hto : tot [t] + 1 ≤ bigN := by
      simp only [tot, List.map_cons, List.map_nil, List.sum_cons, List.sum_nil]
      unfold bigN; omega
    have hwa : andN.wf := okN_wf (by decide +kernel)
    repeat' (first | (refine W1 ?_) | (refine W2 (fun hc => ?_) (fun hc => ?_)) | (intro _) | (apply T.callR (f := 42); (exact rfl); (exact rfl); (intro w' hw'; apply sub_any; (first | exact St.old_tree hw' (by assumption) | exact St.get_treeN hw' AtA | exact St.get_tt hw' AtA (by assumption) (by assumption)); (assumption); (exact Tab.st hT hw'))) | (apply TL.kcallR (f := 42); (exact rfl); (intro w' hw'; apply sub_any; (first | exact St.old_tree hw' (by assumption) | exact St.get_treeN hw' AtA | exact St.get_tt hw' AtA (by assumption) (by assumption)); (assumption); (exact Tab.st hT hw')); (exact rfl); (exact rfl); (exact DropA)))
    rename_i b12 pS _ b13 B244
    refine T.callR rfl rfl (fun w' hw' => of_any andN (.slice none 0 0) (.slice (some ⟨B244, 0, none⟩) 1 1) [t] w' hwa ((RTrees.one rfl (hw'.at_all (H := own 24 2 (some ⟨B244, 0, none⟩) 1 1 [[.slice K t.nodes.length kc, .int .i64 t.root]]) AtA) (St.get_ttN hw' AtA hbi hrow)).mono (fun _ h => h.elim id id)) (by unfold bigN; simp) (by intro x hx; simp at hx; subst hx; exact hwt) hto (Tab.st hT hw')) (fun pO _ => ?_)
    repeat' (first | (refine W1 ?_) | (refine W2 (fun hc => ?_) (fun hc => ?_)) | (intro _) | (apply T.callV (f := 19); (exact rfl); (exact rfl); (intro w' hw'; apply right_any; (first | exact St.old_tree hw' (by assumption) | exact St.get_treeN hw' AtA | exact St.get_tt hw' AtA (by assumption) (by assumption)); (assumption); (exact Tab.st hT hw'))) | (apply TL.kcallV (f := 19); (exact rfl); (intro w' hw'; apply right_any; (first | exact St.old_tree hw' (by assumption) | exact St.get_treeN hw' AtA | exact St.get_tt hw' AtA (by assumption) (by assumption)); (assumption); (exact Tab.st hT hw')); (exact rfl); (exact rfl); (exact DropA)) | (apply T.callV (f := 39); (exact rfl); (exact rfl); (intro w' hw'; apply may_any; (first | exact St.old_tree hw' (by assumption) | exact St.get_treeN hw' AtA | exact St.get_tt hw' AtA (by assumption) (by assumption)); (assumption); (exact Tab.st hT hw'))) | (apply TL.kcallV (f := 39); (exact rfl); (intro w' hw'; apply may_any; (first | exact St.old_tree hw' (by assumption) | exact St.get_treeN hw' AtA | exact St.get_tt hw' AtA (by assumption) (by assumption)); (assumption); (exact Tab.st hT hw')); (exact rfl); (exact rfl); (exact DropA)) | (apply T.callV (f := 35); (exact rfl); (exact rfl); (intro w' hw'; apply size_any; (first | exact St.old_tree hw' (by assumption) | exact St.get_treeN hw' AtA | exact St.get_tt hw' AtA (by assumption) (by assumption)); (assumption); (exact Tab.st hT hw'))) | (apply TL.kcallV (f := 35); (exact rfl); (intro w' hw'; apply size_any; (first | exact St.old_tree hw' (by assumption) | exact St.get_treeN hw' AtA | exact St.get_tt hw' AtA (by assumption) (by assumption)); (assumption); (exact Tab.st hT hw')); (exact rfl); (exact rfl); (exact DropA)) | (apply T.callV (f := 36); (exact rfl); (exact rfl); (intro w' hw'; apply depth_any; (first | exact St.old_tree hw' (by assumption) | exact St.get_treeN hw' AtA | exact St.get_tt hw' AtA (by assumption) (by assumption)); (assumption); (exact Tab.st hT hw'))) | (apply TL.kcallV (f := 36); (exact rfl); (intro w' hw'; apply depth_any; (first | exact St.old_tree hw' (by assumption) | exact St.get_treeN hw' AtA | exact St.get_tt hw' AtA (by assumption) (by assumption)); (assumption); (exact Tab.st hT hw')); (exact rfl); (exact rfl); (exact DropA)) | (apply T.callR (f := 18); (exact rfl); (exact rfl); (intro w' hw'; apply walk_any; (first | exact St.old_tree hw' (by assumption) | exact St.get_treeN hw' AtA | exact St.get_tt hw' AtA (by assumption) (by assumption)); (assumption); (exact Tab.st hT hw'))) | (apply TL.kcallR (f := 18); (exact rfl); (intro w' hw'; apply walk_any; (first | exact St.old_tree hw' (by assumption) | exact St.get_treeN hw' AtA | exact St.get_tt hw' AtA (by assumption) (by assumption)); (assumption); (exact Tab.st hT hw')); (exact rfl); (exact rfl); (exact DropA)) | (apply T.callR (f := 37); (exact rfl); (exact rfl); (intro w' hw'; apply kids_any; (first | exact St.old_tree hw' (by assumption) | exact St.get_treeN hw' AtA | exact St.get_tt hw' AtA (by assumption) (by assumption)); (assumption); (exact Tab.st hT hw'))) | (apply TL.kcallR (f := 37); (exact rfl); (intro w' hw'; apply kids_any; (first | exact St.old_tree hw' (by assumption) | exact St.get_treeN hw' AtA | exact St.get_tt hw' AtA (by assumption) (by assumption)); (assumption); (exact Tab.st hT hw')); (exact rfl); (exact rfl); (exact DropA)) | (apply T.callR (f := 33); (exact rfl); (exact rfl); (intro w' hw'; apply clean_any; (first | exact St.old_tree hw' (by assumption) | exact St.get_treeN hw' AtA | exact St.get_tt hw' AtA (by assumption) (by assumption)); (assumption); (exact Tab.st hT hw'))) | (apply TL.kcallR (f := 33); (exact rfl); (intro w' hw'; apply clean_any; (first | exact St.old_tree hw' (by assumption) | exact St.get_treeN hw' AtA | exact St.get_tt hw' AtA (by assumption) (by assumption)); (assumption); (exact Tab.st hT hw')); (exact rfl); (exact rfl); (exact DropA)) | (apply T.callV (f := 34); (exact rfl); (exact rfl); (intro w' hw'; apply sameT_any; (first | exact St.old_tree hw' (by assumption) | exact St.get_treeN hw' AtA | exact St.get_tt hw' AtA (by assumption) (by assumption)); (first | exact St.old_tree hw' (by assumption) | exact St.get_treeN hw' AtA | exact St.get_tt hw' AtA (by assumption) (by assumption)); (assumption); (assumption); (exact Tab.st hT hw'))) | (apply TL.kcallV (f := 34); (exact rfl); (intro w' hw'; apply sameT_any; (first | exact St.old_tree hw' (by assumption) | exact St.get_treeN hw' AtA | exact St.get_tt hw' AtA (by assumption) (by assumption)); (first | exact St.old_tree hw' (by assumption) | exact St.get_treeN hw' AtA | exact St.get_tt hw' AtA (by assumption) (by assumption)); (assumption); (assumption); (exact Tab.st hT hw')); (exact rfl); (exact rfl); (exact DropA)) | (apply T.callV (f := 38); (exact rfl); (exact rfl); (intro w' hw'; apply root_any; (first | exact St.old_tree hw' (by assumption) | exact St.get_treeN hw' AtA | exact St.get_tt hw' AtA (by assumption) (by assumption)); (assumption); (exact Tab.st hT hw'))) | (apply TL.kcallV (f := 38); (exact rfl); (intro w' hw'; apply root_any; (first | exact St.old_tree hw' (by assumption) | exact St.get_treeN hw' AtA | exact St.get_tt hw' AtA (by assumption) (by assumption)); (assumption); (exact Tab.st hT hw')); (exact rfl); (exact rfl); (exact DropA)))
    exact TX.round (j + 1) hlt2 (by omega) SubA (fun w' hw => St.inc IncA hw)
  · have hck2 : decide ((j : Int) < ((11 : Nat) : Int)) = false := by simp; omega
    repeat' (first | (refine W1 ?_) | (refine W2 (fun hc => ?_) (fun hc => ?_)) | (intro _))
    exact TX.ret_tmp rfl rfl (fun w' hw => RetV.eq hw rfl)
end Go.Proofs.YtlhkkngpppcfoaaDoor
