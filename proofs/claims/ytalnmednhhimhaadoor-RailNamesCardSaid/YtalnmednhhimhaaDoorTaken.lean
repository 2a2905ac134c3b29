/-
  tree.taken, walked.
-/
import Derived.Test.YtalnmednhhimhaaDoorBehind
import Derived.Test.YtalnmednhhimhaaDoorPureA
import Derived.Test.YtalnmednhhimhaaDoorAuto
set_option linter.all false
namespace Go.Proofs.YtalnmednhhimhaaDoor
open Go Go.Sl Go.RowKit Go.Bonsai
set_option linter.unusedVariables false
set_option linter.unusedSimpArgs false

/-- kids that were moved so far, and those that are still to be -/
theorem mapK_step (f : Int → Int) (ks : List Int) (j : Nat) (hj : j < ks.length) : ((ks.take j).map f ++ ks.drop j).set j (f ks[j]) = (ks.take (j + 1)).map f ++ ks.drop (j + 1) := by
  apply List.ext_getElem?
  intro i
  simp only [List.getElem?_set, List.getElem?_append, List.length_append, List.length_map, List.length_take, List.length_drop, List.getElem?_map, List.getElem?_take, List.getElem?_drop]
  have e1 : min j ks.length = j := by omega
  have e2 : min (j + 1) ks.length = j + 1 := by omega
  rw [e1, e2]
  by_cases hij : j = i
  · subst hij
    rw [if_pos rfl, if_pos (by omega), if_pos (by omega), if_pos (by omega), List.getElem?_eq_getElem hj]
    rfl
  · rw [if_neg hij]
    by_cases h : i < j
    · rw [if_pos h, if_pos h, if_pos (by omega), if_pos (by omega)]
    · rw [if_neg h, if_neg (by omega)]
      congr 1
      omega

theorem taken_any (v : Value) (t : Tre) (node : Int) (w : World) (hr : RTree (Old w) w v t) (ht : t.wf) (hR : RightT t) (h0 : 0 ≤ node) (hn : node < t.nodes.length) :
    Calls Tryd.prog 49 #[v, .int .i64 node] w (RetT w (takenP t node)) := by
  have hbl := behind_len hR h0 hn
  have hbm := behind_mem hR h0 hn
  have hbp := behind_pos hR h0 hn
  have hnl := at_len hR h0 hn
  have hlen' := ht.len
  unfold bigN at hlen'
  have hbeh := fun (w : World) (h : RTree (Old w) w v t) => behind_any v t node (chOf t.nodes) w h ht hR.kok.chOf (fun i n hi => chOf_get hi) h0 hn (by unfold bigL; omega)
  have hr0 := hr
  obtain ⟨ns, root⟩ := t
  obtain ⟨nv, rfl, A, c, rows0, rfl, hA, hrows, hc⟩ := hr
  obtain ⟨hlen, hwn, hroot⟩ := ht
  simp only at hA hrows hlen hwn hroot hc hn hbl hnl hlen' hbm hbeh ⊢
  refine TC.calls (l := [.agg #[.slice A ns.length c, .int .i64 root], .int .i64 node]) Tryd.func49 rfl Tryd.ntmps49 rfl (St.start w) ?_
  unfold takenP
  unfold behindP at hbl hbm hbp ⊢
  simp only
  generalize hl : dfsP (chOf ns) ns.length [node] = l at *
  have hm1 : 8 * ns.length ≤ 281474976710656 := by omega
  have hm2 : 96 * l.length ≤ 281474976710656 := by omega
  repeat' (first | (refine T.callR rfl rfl (fun w' hw' => hbeh w' (St.old_tree hw' hr0)) ?_) | (refine W1 ?_) | (refine W2 (fun hc => ?_) (fun hc => ?_)) | (intro _))
  rename_i b0 b1 p _ B C
  refine TC.loopA (ι := (Option Addr × Nat) × List (List Value) × Nat × List Int × List Nod) ((some ⟨C, 0, none⟩, l.length), [], 0, List.replicate ns.length 0, [])
    (fun k r => (7, .slice k.1.1 k.2.2.1 k.1.2) :: (26, .int .i64 k.2.2.1) :: r)
    (fun k => St w [own 55 9 k.1.1 k.2.2.1 k.1.2 k.2.1, hRows k.2.1 k.2.2.2.2, own 3 1 (some ⟨B, 0, none⟩) ns.length ns.length (irows k.2.2.2.1), own 3 1 p.1 l.length p.2 (irows l), blk b1 [.slice none 0 0, .int .i64 0] 24, blk b0 [.slice A ns.length c, .int .i64 root] 24])
    (fun k => k.2.2.1 ≤ l.length ∧ k.2.2.2.1.length = ns.length ∧ k.2.2.2.2.length = k.2.2.1 ∧ k.2.2.2.2 ++ takenGo ns k.2.2.1 k.2.2.2.1 (l.drop k.2.2.1) = takenGo ns 0 (List.replicate ns.length 0) l)
    (fun k => l.length - k.2.2.1) KpA SubA ?_ ⟨by simp, by simp, by simp, by simp⟩ ?_
  · intro w' hw
    rw [irows_rep] at hw
    exact St.inc IncA (St.rows_nil hw)
  · rintro ⟨⟨A2, c2⟩, rows, i, pl, out⟩ ⟨hi, hpl, hol, he⟩
    simp only at hi hpl hol he ⊢
    by_cases hlt : i < l.length
    · have hck : decide ((i : Int) < (l.length : Int)) = true := by simp [hlt]
      have hlk : l[i]? = some l[i] := List.getElem?_eq_getElem hlt
      have hd : l.drop i = l[i] :: l.drop (i + 1) := List.drop_eq_getElem_cons hlt
      have hm := hbm _ (List.getElem_mem hlt)
      rw [hd, takenGo] at he
      generalize l[i] = x at *
      obtain ⟨x, rfl⟩ : ∃ y : Nat, x = y := ⟨x.toNat, by omega⟩
      have hx : x < ns.length := by omega
      have hns : ns[x]? = some ns[x] := List.getElem?_eq_getElem hx
      obtain ⟨cs, hcs, kv, rfl, K, kc, rfl, hK, hkc⟩ := hrows.get hns
      have hwf := hwn _ (List.getElem_mem hx)
      have hko := hR.kok x _ hns
      have hkl := hwf.kids.1
      simp only [Int.toNat_natCast, List.getD_eq_getElem?_getD, hns, Option.getD_some] at he
      generalize ns[x] = n at *
      unfold bigL at hkl
      have hA' : A = some (A.getD default) := hA.some_ (by omega)
      have hpx : pl[x]? = some pl[x] := List.getElem?_eq_getElem (by omega)
      repeat' (first | (refine W1 ?_) | (refine W2 (fun hc => ?_) (fun hc => ?_)) | (intro _))
      refine T.storeA (i := x) (o := 0) (r := [.int .i64 pl[x]]) rfl rfl rfl rfl rfl rfl UpdA (by omega) (irows_get hpx) (by simp) ?_
      have e1 : (irows pl).set x (splice [.int .i64 pl[x]] 0 [.int .i64 i]) = irows (pl.set x i) := (irows_set pl x i).symm
      rw [e1]
      repeat' (first | (refine TC.hold 10 ?_) | (refine W1 ?_) | (refine W2 (fun hc => ?_) (fun hc => ?_)) | (intro _))
      rename_i b2
      refine ⟨TC.cutA (ι := Option Addr × Nat) (fun a r => (11, .slice a.1 n.kids.length a.2) :: r) (fun a => St w [own 3 1 a.1 n.kids.length a.2 (irows n.kids), blk b2 (n.cells (.slice K n.kids.length kc)) 55, own 55 9 A2 i c2 rows, hRows rows out, own 3 1 (some ⟨B, 0, none⟩) ns.length ns.length (irows (pl.set x i)), own 3 1 p.1 l.length p.2 (irows l), blk b1 [.slice none 0 0, .int .i64 0] 24, blk b0 [.slice A ns.length c, .int .i64 root] 24]) KpA ?_ ?_⟩
      · repeat' (first | (refine W1 ?_) | (refine W2 (fun hc => ?_) (fun hc => ?_)) | (intro _))
        · refine T.copy rfl rfl rfl UpdA (fun w hw => St.old_arr hw hK) (irows_oneB _) ?_
          have e2 : (irows n.kids).take n.kids.length ++ (List.replicate n.kids.length (Value.int IntKind.i64 0).cells.toList).drop n.kids.length = irows n.kids := by
            rw [List.take_of_length_le (by rw [irows_len]; omega), List.drop_of_length_le (by simp), List.append_nil]
          rw [e2]
          rename_i B3
          repeat' (first | (refine W1 ?_) | (refine W2 (fun hc => ?_) (fun hc => ?_)) | (intro _))
          exact TX.join (some ⟨B3, 0, none⟩, n.kids.length) SubA (fun w' hw => hw)
        · have hk0 : n.kids = [] := by simpa using hc
          refine TX.join (none, 0) (by rw [hk0]; exact SubA) (fun w' hw => ?_)
          rw [hk0]
          exact St.own_nil (by rw [hk0] at hw; exact hw)
      · rintro ⟨A4, c4⟩
        repeat' (first | (refine W1 ?_) | (refine W2 (fun hc => ?_) (fun hc => ?_)) | (intro _))
        refine TC.loopA (ι := Nat) 0 (fun k r => (54, .int .i64 k) :: r) (fun k => St w [own 3 1 A4 n.kids.length c4 (irows ((n.kids.take k).map (fun y : Int => (pl.set x (i : Int)).getD y.toNat 0) ++ n.kids.drop k)), blk b2 (n.cells (.slice K n.kids.length kc)) 55, own 55 9 A2 i c2 rows, hRows rows out, own 3 1 (some ⟨B, 0, none⟩) ns.length ns.length (irows (pl.set x i)), own 3 1 p.1 l.length p.2 (irows l), blk b1 [.slice none 0 0, .int .i64 0] 24, blk b0 [.slice A ns.length c, .int .i64 root] 24])
          (fun k => k ≤ n.kids.length) (fun k => n.kids.length - k) KpA SubA ?_ (Nat.zero_le _) ?_
        · exact fun w' hw => hw
        · intro j hj
          by_cases hjl : j < n.kids.length
          · have hcj : decide ((j : Int) < (n.kids.length : Int)) = true := by simp [hjl]
            have hjk : n.kids[j]? = some n.kids[j] := List.getElem?_eq_getElem hjl
            have hje : ((n.kids.take j).map (fun y : Int => (pl.set x (i : Int)).getD y.toNat 0) ++ n.kids.drop j)[j]? = some n.kids[j] := by
              rw [List.getElem?_append_right (by simp; omega), List.getElem?_drop]
              rw [← hjk]
              congr 1
              simp; omega
            have hko := hko _ (List.getElem_mem hjl)
            have hst := mapK_step (fun y : Int => (pl.set x (i : Int)).getD y.toNat 0) n.kids j hjl
            generalize n.kids[j] = y at *
            obtain ⟨y, rfl⟩ : ∃ z : Nat, y = z := ⟨y.toNat, by omega⟩
            have hy : y < ns.length := by omega
            have hyp : (pl.set x (i : Int))[y]? = some ((pl.set x (i : Int)).getD y 0) := by
              rw [List.getD_eq_getElem?_getD, List.getElem?_eq_getElem (by simp; omega)]
              rfl
            repeat' (first | (refine W1 ?_) | (refine W2 (fun hc => ?_) (fun hc => ?_)) | (intro _))
            refine T.storeA (i := j) (o := 0) (r := [.int .i64 y]) rfl rfl rfl rfl rfl rfl UpdA (by omega) (irows_get hje) (by simp) ?_
            simp only [Int.toNat_natCast] at hst
            have e3 := (irows_set ((n.kids.take j).map (fun y : Int => (pl.set x (i : Int)).getD y.toNat 0) ++ n.kids.drop j) j ((pl.set x (i : Int)).getD y 0)).symm
            rw [hst] at e3
            rw [show (irows ((n.kids.take j).map (fun y : Int => (pl.set x (i : Int)).getD y.toNat 0) ++ n.kids.drop j)).set j (splice [.int .i64 y] 0 [.int .i64 ((pl.set x (i : Int)).getD y 0)]) = _ from e3]
            repeat' (first | (refine W1 ?_) | (refine W2 (fun hc => ?_) (fun hc => ?_)) | (intro _))
            exact TX.round (j + 1) hjl (by omega) SubA (fun w' hw => hw)
          · have hcj : decide ((j : Int) < (n.kids.length : Int)) = false := by simp; omega
            rw [List.take_of_length_le (by omega), List.drop_of_length_le (by omega), List.append_nil]
            repeat' (first | (refine W1 ?_) | (refine W2 (fun hc => ?_) (fun hc => ?_)) | (intro _))
            refine T.append (rows := rows) (news := [({ n with kids := n.kids.map (fun y : Int => (pl.set x (i : Int)).getD y.toNat 0) }).cells (.slice A4 n.kids.length c4)]) rfl rfl rfl DelA (fun w hw => St.own_arr hw AtA) (fun _ _ r hr => by simp at hr; subst hr; rfl) (by unfold maxLen; omega) (by omega) (fun A5 c5 => ?_)
            repeat' (first | (refine W1 ?_) | (refine W2 (fun hc => ?_) (fun hc => ?_)) | (intro _))
            refine TX.round ((A5, c5), rows ++ [({ n with kids := n.kids.map (fun y : Int => (pl.set x (i : Int)).getD y.toNat 0) }).cells (.slice A4 n.kids.length c4)], i + 1, pl.set x i, out ++ [{ n with kids := n.kids.map (fun y : Int => (pl.set x (i : Int)).getD y.toNat 0) }]) ⟨hlt, by simp [hpl], by simp [hol], ?_⟩ (show l.length - (i + 1) < l.length - i by omega) SubA (fun w' hw => ?_)
            · rw [List.append_assoc]
              exact he
            · have h0 := St.del (H := hRows rows out) DelA hw
              have h1 := St.del (H := own 3 1 A4 n.kids.length c4 (irows (n.kids.map (fun y : Int => (pl.set x (i : Int)).getD y.toNat 0)))) DelA h0
              exact St.inc IncA (St.joinX (K := hRows (rows ++ [({ n with kids := n.kids.map (fun y : Int => (pl.set x (i : Int)).getD y.toNat 0) }).cells (.slice A4 n.kids.length c4)]) (out ++ [{ n with kids := n.kids.map (fun y : Int => (pl.set x (i : Int)).getD y.toNat 0) }])) (fun S S' w h h' hd => hRows_snoc (n := { n with kids := n.kids.map (fun y : Int => (pl.set x (i : Int)).getD y.toNat 0) }) (by simp) h h' hd) h1)
    · have hck : decide ((i : Int) < (l.length : Int)) = false := by simp; omega
      have hd : l.drop i = [] := List.drop_of_length_le (by omega)
      rw [hd, takenGo, List.append_nil] at he
      obtain rfl : i = l.length := by omega
      repeat' (first | (refine W1 ?_) | (refine W2 (fun hc => ?_) (fun hc => ?_)) | (intro _))
      refine TX.ret_gen (rs := [.cell 4 24]) (vs := [.agg #[.slice A2 l.length c2, .int .i64 ((l.length - 1 : Nat) : Int)]]) rfl (.cell rfl (blk_res (cs := [.slice A2 l.length c2, .int .i64 ((l.length - 1 : Nat) : Int)]) AtA rfl) .nil) (fun w' hw => ?_)
      have h0 := St.del (H := hRows rows out) DelA hw
      have h1 := St.del (H := own 55 9 A2 l.length c2 rows) DelA h0
      rw [← hol] at h1
      have h2 := St.joinX (K := hNodes (.slice A2 out.length c2) out) (fun S S' w h h' hd => hNodes_join h h' hd) h1
      rw [← he, show ((l.length : Int) - 1) = ((l.length - 1 : Nat) : Int) by omega, ← hol]
      exact Ret.mk (A2, c2) trivial (.cons .here .nil) h2
end Go.Proofs.YtalnmednhhimhaaDoor
