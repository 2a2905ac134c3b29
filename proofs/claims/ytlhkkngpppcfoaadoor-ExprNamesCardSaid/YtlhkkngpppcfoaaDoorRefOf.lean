/-
  bonsairef04.Of, walked.
-/
import Derived.Test.YtlhkkngpppcfoaaDoorRefSub
import Derived.Test.YtlhkkngpppcfoaaDoorKids
set_option linter.all false
namespace Go.Bonsai
open Go Go.Sl Go.RowKit
theorem hNK_at {A K K' : Option Addr} {n c i kc : Nat} {rows : List (List Value)} {ns : List Nod} {xs : List Int} {m : Nod} {S : Nat → Prop} {w : World} (hn : ns[i]? = some m) (hr : rows[i]? = some (m.cells (.slice K' m.kids.length kc)))
    (h : (hNK A n c rows ns K xs).on S w) : (hNK A n c rows ns K' m.kids).on S w := by
  refine ⟨h.1, ?_⟩
  obtain ⟨kv, e, K2, c2, e2, hK, _⟩ := h.1.2.1.2 i _ m hr hn
  have e3 : Value.slice K' m.kids.length kc = kv := by
    have := congrArg (fun l => l[8]?) e
    simpa [Nod.cells] using this
  rw [e2] at e3
  injection e3 with q1 q2 q3
  subst q1
  exact hK
theorem St.openNX {w0 w : World} {L L' : List HP} {A : Option Addr} {c : Nat} {ns : List Nod} (hd : Del L (hNodes (.slice A ns.length c) ns) L') (h : St w0 L w) :
    ∃ x : { rows : List (List Value) // ∀ (i : Nat) m, ns[i]? = some m → ∃ K kc, rows[i]? = some (m.cells (.slice K m.kids.length kc)) }, St w0 (hNK A ns.length c x.1 ns none [] :: L') w := by
  refine St.weakEx (fun S w h => ?_) (h.del hd)
  obtain ⟨A', c', rows, e, h1, h2, h3⟩ := hNodes_on h
  injection e with e1 e2 e3
  subst e1; subst e3
  refine ⟨⟨rows, fun i m hm => ?_⟩, ⟨h1, h2, h3⟩, Arr.nil⟩
  obtain ⟨cs, hcs, kv, rfl, K, kc, rfl, _⟩ := h2.get hm
  exact ⟨K, kc, hcs⟩
theorem movedP_take {ns : List Nod} {d : Int} {i : Nat} {n : Nod} (h : ns[i]? = some n) : movedP (ns.take (i + 1)) d = movedP (ns.take i) d ++ [{ n with kids := n.kids.map (· + d) }] := by
  obtain ⟨hi, he⟩ := List.getElem?_eq_some_iff.1 h
  rw [List.take_succ_eq_append_getElem hi, he]
  simp [movedP]
end Go.Bonsai
namespace Go.Proofs.YtlhkkngpppcfoaaDoor
open Go Go.Sl Go.RowKit Go.Bonsai
set_option linter.unusedVariables false
set_option linter.unusedSimpArgs false

theorem rof_any (n : Nod) (kv : Value) (v : Value) (l : List Tre) (w : World) (hn : n.wf) (hr : RTrees (Old w) w v l) (hl : l.length ≤ bigN) (hwl : ∀ t ∈ l, t.wf) (hto : tot l + 1 ≤ bigN) (hkl : ∀ t ∈ l, (allKids t.nodes).length ≤ bigL) :
    Calls Tryd.prog 30 #[.agg (n.cells kv).toArray, v] w (RetTB w (ofP n l)) := by
  obtain ⟨A, c, rows0, rfl, hA, hrows, hc⟩ := hr
  have h0l : rows0.length = l.length := hA.1
  unfold bigN at hl hto
  refine TC.calls (l := [.agg (n.cells kv).toArray, .slice A l.length c]) Tryd.func30 rfl Tryd.ntmps30 rfl (St.start w) ?_
  cases hf : fits n l.length with
  | false =>
    have hfn : (!fits n l.length) = true := by rw [hf]; rfl
    repeat' (first | (refine T.callV rfl rfl (fun w' hw' => rfits_any n _ _ w' hn) ?_) | (refine W1 ?_) | (refine W2 (fun hc => ?_) (fun hc => ?_)) | (intro _))
    have e : ofP n l = (.zero, false) := by unfold ofP; rw [if_neg (by rw [hf]; simp)]
    rw [e]
    refine TX.ret_gen (rs := [.cell 4 24, .tmp 5]) (vs := [.agg #[.slice none 0 0, .int .i64 0], .bool false]) rfl (.cell rfl (blk_res (cs := [.slice none 0 0, .int .i64 0]) AtA rfl) (.tmp rfl .nil)) (fun w' hw => ?_)
    have h1 := St.push (H := hNodes (.slice none 0 0) []) hw Chg.refl hNodes_nil
    exact Ret.mk ((none : Option Addr), 0) trivial (.cons .here .nil) h1
  | true =>
    have hfn : (!fits n l.length) = false := by rw [hf]; rfl
    have hofN : ofGo l [] [] = none → ofP n l = (.zero, false) := fun h => by unfold ofP; rw [if_pos hf, h]
    have hofS : ∀ a ks, ofGo l [] [] = some (a, ks) → ofP n l = (⟨a ++ [{ n with kids := ks }], a.length⟩, true) := fun a ks h => by unfold ofP; rw [if_pos hf, h]
    repeat' (first | (refine T.callV rfl rfl (fun w' hw' => rfits_any n _ _ w' hn) ?_) | (refine W1 ?_) | (refine W2 (fun hc => ?_) (fun hc => ?_)) | (intro _))
    rename_i b2 b4
    refine TC.loopA (ι := (Option Addr × Nat × Nat) × (Option Addr × Nat) × List (List Value) × Nat × List Nod × List Int) ((none, 0, 0), (none, 0), [], 0, [], [])
      (fun k r => (7, .int .i64 k.2.2.2.1) :: (6, .slice k.1.1 k.1.2.2 k.1.2.1) :: r)
      (fun k => St w [blk b2 (n.cells (.slice k.2.1.1 k.2.2.2.1 k.2.1.2)) 34, own 34 9 k.1.1 k.1.2.2 k.1.2.1 k.2.2.1, hRows k.2.2.1 k.2.2.2.2.1, own 3 1 k.2.1.1 k.2.2.2.1 k.2.1.2 (irows k.2.2.2.2.2), blk b4 [.slice none 0 0, .int .i64 0] 24])
      (fun k => k.2.2.2.1 ≤ l.length ∧ k.2.2.2.2.2.length = k.2.2.2.1 ∧ k.2.2.2.2.1.length = k.1.2.2 ∧ k.1.2.2 + tot (l.drop k.2.2.2.1) ≤ tot l ∧ ofGo (l.drop k.2.2.2.1) k.2.2.2.2.1 k.2.2.2.2.2 = ofGo l [] [] ∧ ∀ x ∈ k.2.2.2.2.2, I64 x)
      (fun k => l.length - k.2.2.2.1) KpA SubA (fun w' hw => St.inc IncA (St.own_nil (e := 34) (sz := 9) (St.rows_nil (St.own_nil (e := 3) (sz := 1) hw)))) ⟨by simp, rfl, rfl, by simp, rfl, by simp⟩ ?_
    rintro ⟨⟨A1, c1, m⟩, ⟨A2, c2⟩, rows, i, a, ks⟩ ⟨hi, hkl2, ham, hal, he, hks⟩
    simp only at hi hkl2 ham hal he hks ⊢
    by_cases hlt : i < l.length
    · have hck : decide ((i : Int) < (l.length : Int)) = true := by simp [hlt]
      have hls : l[i]? = some l[i] := List.getElem?_eq_getElem hlt
      have hd : l.drop i = l[i] :: l.drop (i + 1) := List.drop_eq_getElem_cons hlt
      obtain ⟨cs, hcs, hrc⟩ := hrows.get hls
      have hwt := hwl _ (List.getElem_mem hlt)
      have hkt := hkl _ (List.getElem_mem hlt)
      have htt := tot_le (List.getElem_mem hlt)
      rw [hd, ofGo] at he
      rw [hd, tot_cons] at hal
      generalize l[i] = t at *
      have hrt := hrc.tree
      obtain ⟨K, kc, rfl, hrn⟩ := hrc
      have hA' : A = some (A.getD default) := hA.some_ (by omega)
      cases hri : rightP t with
      | false =>
        have hrin : (!rightP t) = true := by rw [hri]; rfl
        rw [if_neg (by rw [hri]; simp)] at he
        repeat' (first | (refine T.callV rfl rfl (fun w' hw' => rright_any _ t w' (St.old_tree hw' hrt) hwt hkt) ?_) | (refine W1 ?_) | (refine W2 (fun hc => ?_) (fun hc => ?_)) | (intro _))
        rw [hofN he.symm]
        refine TX.ret_gen (rs := [.cell 4 24, .tmp 5]) (vs := [.agg #[.slice none 0 0, .int .i64 0], .bool false]) rfl (.cell rfl (blk_res (cs := [.slice none 0 0, .int .i64 0]) AtA rfl) (.tmp rfl .nil)) (fun w' hw => ?_)
        have h1 := St.push (H := hNodes (.slice none 0 0) []) hw Chg.refl hNodes_nil
        exact Ret.mk ((none : Option Addr), 0) trivial (.cons .here .nil) h1
      | true =>
        have hrin : (!rightP t) = false := by rw [hri]; rfl
        have hRt := rightP_spec hri
        have hcl : cleanP t = takenP t t.root := cleanP_yes hri
        have hwfk := takenP_wf hwt hRt hRt.root.1 hRt.root.2
        have hlk := takenP_len hRt hRt.root.1 hRt.root.2
        have hpk : 0 < (takenP t t.root).nodes.length := by
          show 0 < (takenGo _ _ _ _).length
          rw [takenGo_length]; exact behind_pos hRt hRt.root.1 hRt.root.2
        rw [if_pos hri, ham] at he
        rw [← hcl] at he hwfk hlk hpk
        repeat' (first | (refine T.callV rfl rfl (fun w' hw' => rright_any _ t w' (St.old_tree hw' hrt) hwt hkt) ?_) | (refine W1 ?_) | (refine W2 (fun hc => ?_) (fun hc => ?_)) | (intro _))
        refine T.callR rfl rfl (fun w' hw' => rclean_any _ t w' (St.old_tree hw' hrt) hwt hkt) (fun p1 _ => ?_)
        generalize hC : (cleanP t).nodes = C at *
        repeat' (first | (refine W1 ?_) | (refine W2 (fun hc => ?_) (fun hc => ?_)) | (intro _))
        rename_i b8
        refine TC.ex (fun w hw => St.openNX (A := p1.1) (c := p1.2) (ns := C) DelA hw) (fun x => ?_)
        obtain ⟨rowsC, hrowsC⟩ := x
        dsimp only
        refine TC.loopA (ι := (Option Addr × Nat) × List (List Value) × Nat) ((A1, c1), rows, 0) (fun k r => (6, .slice k.1.1 (m + k.2.2) k.1.2) :: (10, .int .i64 k.2.2) :: r)
          (fun k => St w [own 34 9 k.1.1 (m + k.2.2) k.1.2 k.2.1, hRows k.2.1 (a ++ movedP (C.take k.2.2) (m : Int)), hNK p1.1 C.length p1.2 rowsC C none [], blk b8 [.slice p1.1 C.length p1.2, .int .i64 (cleanP t).root] 24, blk b2 (n.cells (.slice A2 i c2)) 34, own 3 1 A2 i c2 (irows ks), blk b4 [.slice none 0 0, .int .i64 0] 24])
          (fun k => k.2.2 ≤ C.length) (fun k => C.length - k.2.2) KpA SubA (fun w' hw => by
            rw [show movedP (List.take 0 C) (m : Int) = [] from rfl, List.append_nil]
            exact St.inc IncA hw) (Nat.zero_le _) ?_
        rintro ⟨⟨A3, c3⟩, rows3, k⟩ hk
        simp only at hk ⊢
        by_cases hkc : k < C.length
        · have hck2 : decide ((k : Int) < (C.length : Int)) = true := by simp [hkc]
          have hCk : C[k]? = some C[k] := List.getElem?_eq_getElem hkc
          have hmv := movedP_take (d := (m : Int)) hCk
          have hwx := hwfk.1.nodes _ (by rw [hC]; exact List.getElem_mem hkc)
          have hwk := hwfk.2 _ (List.getElem_mem hkc)
          generalize C[k] = y at *
          obtain ⟨K3, kc3, hrow⟩ := hrowsC k y hCk
          have hyl := hwx.kids.1
          unfold bigL at hyl
          refine TC.sub (fun w hw => St.weakAt (H := hNK p1.1 C.length p1.2 rowsC C none []) (H' := hNK p1.1 C.length p1.2 rowsC C K3 y.kids) UpdA (fun S w h => hNK_at hCk hrow h) hw) ?_
          repeat' (first | (refine W1 ?_) | (refine W2 (fun hc => ?_) (fun hc => ?_)) | (intro _))
          rename_i b11
          refine TC.loopA (ι := (Option Addr × Nat) × Nat) ((none, 0), 0) (fun k r => (12, .slice k.1.1 k.2 k.1.2) :: (13, .int .i64 k.2) :: r)
            (fun q => St w [own 3 1 q.1.1 q.2 q.1.2 (irows ((y.kids.take q.2).map (fun z : Int => (m : Int) + z))), blk b11 (y.cells (.slice K3 y.kids.length kc3)) 34, own 34 9 A3 (m + k) c3 rows3, hRows rows3 (a ++ movedP (C.take k) (m : Int)), hNK p1.1 C.length p1.2 rowsC C K3 y.kids, blk b8 [.slice p1.1 C.length p1.2, .int .i64 (cleanP t).root] 24, blk b2 (n.cells (.slice A2 i c2)) 34, own 3 1 A2 i c2 (irows ks), blk b4 [.slice none 0 0, .int .i64 0] 24])
            (fun q => q.2 ≤ y.kids.length) (fun q => y.kids.length - q.2) KpA SubA (fun w' hw => by simp only [List.take_zero, List.map_nil]; exact St.inc IncA (St.own_nil (e := 3) (sz := 1) hw)) (Nat.zero_le _) ?_
          rintro ⟨⟨A4, c4⟩, j⟩ hj
          simp only at hj ⊢
          by_cases hjl : j < y.kids.length
          · have hcj : decide ((j : Int) < (y.kids.length : Int)) = true := by simp [hjl]
            have hjk : y.kids[j]? = some y.kids[j] := List.getElem?_eq_getElem hjl
            have htk : y.kids.take (j + 1) = y.kids.take j ++ [y.kids[j]] := List.take_succ_eq_append_getElem hjl
            have hwz := hwk _ (List.getElem_mem hjl)
            generalize y.kids[j] = z at *
            have hI : I64 ((m : Int) + z) := by unfold bigN at hwz; unfold I64; omega
            repeat' (first | (refine W1 ?_) | (refine W2 (fun hc => ?_) (fun hc => ?_)) | (intro _))
            refine T.append (rows := irows ((y.kids.take j).map (fun z : Int => (m : Int) + z))) (news := irows [(m : Int) + z]) rfl rfl rfl DelA (fun w hw => St.own_arr hw AtA) (fun _ _ => irows_oneB _) (by unfold maxLen; omega) (by omega) (fun A7 c7 => ?_)
            repeat' (first | (refine W1 ?_) | (refine W2 (fun hc => ?_) (fun hc => ?_)) | (intro _))
            refine TX.round ((A7, c7), j + 1) hjl (show y.kids.length - (j + 1) < y.kids.length - j by omega) SubA (fun w' hw => ?_)
            rw [htk, List.map_append, irows_append]
            exact St.inc IncA hw
          · have hcj : decide ((j : Int) < (y.kids.length : Int)) = false := by simp; omega
            obtain rfl : j = y.kids.length := by omega
            have hcomm : (fun z : Int => (m : Int) + z) = (fun z : Int => z + (m : Int)) := by funext z; omega
            rw [List.take_of_length_le (Nat.le_refl _), hcomm]
            repeat' (first | (refine W1 ?_) | (refine W2 (fun hc => ?_) (fun hc => ?_)) | (intro _))
            refine T.append (rows := rows3) (news := [({ y with kids := y.kids.map (fun z : Int => z + (m : Int)) }).cells (.slice A4 y.kids.length c4)]) rfl rfl rfl DelA (fun w hw => St.own_arr hw AtA) (fun _ _ r hr => by simp at hr; subst hr; rfl) (by unfold maxLen; omega) (by omega) (fun A5 c5 => ?_)
            repeat' (first | (refine W1 ?_) | (refine W2 (fun hc => ?_) (fun hc => ?_)) | (intro _))
            refine TX.round ((A5, c5), rows3 ++ [({ y with kids := y.kids.map (fun z : Int => z + (m : Int)) }).cells (.slice A4 y.kids.length c4)], k + 1) hkc (show C.length - (k + 1) < C.length - k by omega) SubA (fun w' hw => ?_)
            have h0 := St.del (H := hRows rows3 (a ++ movedP (C.take k) (m : Int))) DelA hw
            have h1 := St.del (H := own 3 1 A4 y.kids.length c4 (irows (y.kids.map (fun z : Int => z + (m : Int))))) DelA h0
            have h2 := St.joinX (K := hRows (rows3 ++ [({ y with kids := y.kids.map (fun z : Int => z + (m : Int)) }).cells (.slice A4 y.kids.length c4)]) ((a ++ movedP (C.take k) (m : Int)) ++ [{ y with kids := y.kids.map (fun z : Int => z + (m : Int)) }])) (fun S S' w h h' hd => hRows_snoc (n := { y with kids := y.kids.map (fun z : Int => z + (m : Int)) }) (by simp) h h' hd) h1
            have h3 := St.weakAt (H := hNK p1.1 C.length p1.2 rowsC C K3 y.kids) (H' := hNK p1.1 C.length p1.2 rowsC C none []) UpdA (fun S w h => ⟨h.1, Arr.nil⟩) h2
            rw [hmv, ← List.append_assoc]
            exact St.inc IncA h3
        · have hck2 : decide ((k : Int) < (C.length : Int)) = false := by simp; omega
          obtain rfl : k = C.length := by omega
          rw [List.take_of_length_le (Nat.le_refl _)]
          repeat' (first | (refine W1 ?_) | (refine W2 (fun hc => ?_) (fun hc => ?_)) | (intro _))
          refine T.append (rows := irows ks) (news := irows [((m + C.length - 1 : Nat) : Int)]) rfl rfl rfl DelA (fun w hw => St.own_arr hw AtA) (fun _ _ => irows_oneB _) (by unfold maxLen; omega) (by omega) (fun A6 c6 => ?_)
          repeat' (first | (refine W1 ?_) | (refine W2 (fun hc => ?_) (fun hc => ?_)) | (intro _))
          refine TX.round ((A3, c3, m + C.length), (A6, c6), rows3, i + 1, a ++ movedP C (m : Int), ks ++ [((m + C.length - 1 : Nat) : Int)]) ⟨hlt, by simp [hkl2], by simp [ham, movedP], ?_, ?_, ?_⟩ (show l.length - (i + 1) < l.length - i by omega) SubA (fun w' hw => ?_)
          · show m + C.length + tot (l.drop (i + 1)) ≤ tot l
            omega
          · rw [← he]
            show ofGo _ _ _ = ofGo _ _ _
            rw [show ((m + C.length - 1 : Nat) : Int) = ((m + C.length : Nat) : Int) - 1 by omega]
          · intro x hx
            rcases List.mem_append.1 hx with hx | hx
            · exact hks x hx
            · simp at hx
              subst hx
              unfold I64
              omega
          · rw [irows_append]
            exact St.inc IncA hw
    · have hck : decide ((i : Int) < (l.length : Int)) = false := by simp; omega
      obtain rfl : i = l.length := by omega
      rw [List.drop_of_length_le (Nat.le_refl _), ofGo] at he
      repeat' (first | (refine W1 ?_) | (refine W2 (fun hc => ?_) (fun hc => ?_)) | (intro _))
      refine T.append (rows := rows) (news := [({ n with kids := ks }).cells (.slice A2 l.length c2)]) rfl rfl rfl DelA (fun w hw => St.own_arr hw AtA) (fun _ _ r hr => by simp at hr; subst hr; rfl) (by unfold maxLen; omega) (by omega) (fun A7 c7 => ?_)
      repeat' (first | (refine W1 ?_) | (refine W2 (fun hc => ?_) (fun hc => ?_)) | (intro _))
      rw [hofS a ks he.symm]
      refine TX.ret_gen (rs := [.cell 4 24, .tmp 5]) (vs := [.agg #[.slice A7 (m + 1) c7, .int .i64 ((m + 1 - 1 : Nat) : Int)], .bool true]) rfl (.cell rfl (blk_res (cs := [.slice A7 (m + 1) c7, .int .i64 ((m + 1 - 1 : Nat) : Int)]) AtA rfl) (.tmp rfl .nil)) (fun w' hw => ?_)
      have h0 := St.del (H := hRows rows a) DelA hw
      have h1 := St.del (H := own 3 1 A2 l.length c2 (irows ks)) DelA h0
      have h2 := St.joinX (K := hRows (rows ++ [({ n with kids := ks }).cells (.slice A2 l.length c2)]) (a ++ [{ n with kids := ks }])) (fun S S' w h h' hd => hRows_snoc (n := { n with kids := ks }) hkl2 h h' hd) h1
      have h3 := St.del (H := own 34 9 A7 (m + 1) c7 (rows ++ [({ n with kids := ks }).cells (.slice A2 l.length c2)])) DelA h2
      have hal : (a ++ [{ n with kids := ks }]).length = m + 1 := by simp [ham]
      rw [← hal] at h3
      have h4 := St.joinX (K := hNodes (.slice A7 (a ++ [{ n with kids := ks }]).length c7) (a ++ [{ n with kids := ks }])) (fun S S' w h h' hd => hNodes_join h h' hd) h3
      rw [Nat.add_sub_cancel, ← ham, show a.length + 1 = (a ++ [{ n with kids := ks }]).length by simp]
      exact Ret.mk (A7, c7) trivial (.cons .here .nil) h4
end Go.Proofs.YtlhkkngpppcfoaaDoor
