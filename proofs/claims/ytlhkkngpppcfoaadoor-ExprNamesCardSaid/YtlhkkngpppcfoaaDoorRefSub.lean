/-
  bonsairef04.Sub, Clean, walked.
-/
import Derived.Test.YtlhkkngpppcfoaaDoorRefRight
import Derived.Test.YtlhkkngpppcfoaaDoorOf
set_option linter.all false
namespace Go.Bonsai
open Go Go.Sl
/-- what stands at a node, clean -/
def subP (t : Tre) (node : Int) : Tre × Bool := if rightP t = true ∧ 0 ≤ node ∧ node < t.nodes.length then (takenP t node, true) else (.zero, false)
theorem subP_yes {t : Tre} {node : Int} (h : rightP t = true) (h0 : 0 ≤ node) (hn : node < t.nodes.length) : subP t node = (takenP t node, true) := by unfold subP; rw [if_pos ⟨h, h0, hn⟩]
theorem subP_no {t : Tre} {node : Int} (h : ¬ (rightP t = true ∧ 0 ≤ node ∧ node < t.nodes.length)) : subP t node = (.zero, false) := by unfold subP; rw [if_neg h]
end Go.Bonsai
namespace Go.Proofs.YtlhkkngpppcfoaaDoor
open Go Go.Sl Go.RowKit Go.Bonsai
set_option linter.unusedVariables false
set_option linter.unusedSimpArgs false

theorem rsub_any (v : Value) (t : Tre) (node : Int) (w : World) (hr : RTree (Old w) w v t) (ht : t.wf) (hkt : (allKids t.nodes).length ≤ bigL) :
    Calls Tryd.prog 50 #[v, .int .i64 node] w (RetTB w (subP t node)) := by
  have hr0 := hr
  have ht0 := ht
  obtain ⟨nv, rfl, A, c, rows0, rfl, hA, hrows, hc⟩ := hr
  refine TC.calls (l := [.agg #[.slice A t.nodes.length c, .int .i64 t.root], .int .i64 node]) Tryd.func50 rfl Tryd.ntmps50 rfl (St.start w) ?_
  by_cases hyes : rightP t = true ∧ 0 ≤ node ∧ node < t.nodes.length
  case neg =>
    rw [subP_no hyes]
    repeat' (first | (refine T.callV rfl rfl (fun w' hw' => rright_any _ t w' (St.old_tree hw' hr0) ht0 hkt) ?_) | (refine TC.holdR 3 ?_) | (refine W1 ?_) | (refine W2 (fun hc => ?_) (fun hc => ?_)) | (intro _))
    all_goals first
      | (refine TX.ret_gen (rs := [.cell 4 24, .tmp 5]) (vs := [.agg #[.slice none 0 0, .int .i64 0], .bool false]) rfl (.cell rfl (blk_res (cs := [.slice none 0 0, .int .i64 0]) AtA rfl) (.tmp rfl .nil)) (fun w' hw => ?_)
         have h1 := St.push (H := hNodes (.slice none 0 0) []) hw Chg.refl hNodes_nil
         exact Ret.mk ((none : Option Addr), 0) trivial (.cons .here .nil) h1)
      | (exfalso; simp_all; done)
      | (exfalso; simp_all; omega)
  obtain ⟨hri, h0, hn⟩ := hyes
  rw [subP_yes hri h0 hn]
  have hR := rightP_spec hri
  have hbl := behind_len hR h0 hn
  have hbm := behind_mem hR h0 hn
  have hbp := behind_pos hR h0 hn
  have hnl := at_len hR h0 hn
  have hch := hR.kok.chOf
  have hk : ∀ (i : Nat) n, t.nodes[i]? = some n → n.kids = chOf t.nodes i := fun i n hi => chOf_get hi
  have hlen' := ht.len
  unfold bigN at hlen'
  obtain ⟨hlen, hwn, hroot⟩ := ht
  have q1 : (!rightP t) = false := by rw [hri]; rfl
  have q2 : decide (node < 0) = false := by simp; omega
  have q3 : decide ((t.nodes.length : Int) ≤ node) = false := by simp; omega
  have hm1 : 8 * t.nodes.length ≤ 281474976710656 := by omega
  have hm2 : 1 * 1 ≤ 281474976710656 := by omega
  unfold takenP
  unfold behindP at hbl hbm hbp ⊢
  generalize hl : dfsP (chOf t.nodes) t.nodes.length [node] = l at *
  obtain ⟨ns, root⟩ := t
  simp only at hA hrows hlen hwn hroot hc hn hbl hnl hlen' hbm hk hch hl hkt q3 hm1 ⊢
  generalize hcc : chOf ns = ch at *
  repeat' (first | (refine T.callV rfl rfl (fun w' hw' => rright_any _ ⟨ns, root⟩ w' (St.old_tree hw' hr0) ht0 hkt) ?_) | (refine W1 ?_) | (refine W2 (fun hc => ?_) (fun hc => ?_)) | (intro _))
  rename_i b2 b4 B
  have hroom : ∀ (op out : List Int), out ++ dfs (revC ch) ns.length op.reverse = dfs (revC ch) ns.length [node] → out.length + op.length ≤ 17592186044416 := by
    intro op out he
    have h1 := dfs_length_ge (ch := revC ch) ns.length op.reverse (by omega)
    have h2 := congrArg List.length he
    rw [dfs_revC_length ns.length [node], List.length_append] at h2
    simp at h1
    omega
  refine TC.loopA (ι := (Option Addr × Nat × Option Addr × Nat) × List Int × List Int) ((some ⟨B, 0, none⟩, 1, none, 0), [node], [])
    (fun k r => (7, .slice k.1.1 k.2.1.length k.1.2.1) :: (6, .slice k.1.2.2.1 k.2.2.length k.1.2.2.2) :: r)
    (fun k => St w [own 3 1 k.1.2.2.1 k.2.2.length k.1.2.2.2 (irows k.2.2), own 3 1 k.1.1 k.2.1.length k.1.2.1 (irows k.2.1), blk b4 [.slice none 0 0, .int .i64 0] 24, blk b2 [.slice A ns.length c, .int .i64 root] 24])
    (fun k => (∀ x ∈ k.2.1, 0 ≤ x ∧ x < ns.length) ∧ k.2.2 ++ dfs (revC ch) ns.length k.2.1.reverse = dfs (revC ch) ns.length [node]) (fun k => (dfs (revC ch) ns.length k.2.1.reverse).length) KpA SubA (fun w' hw => St.own_nil hw) ⟨by simp; omega, by simp⟩ ?_
  rintro ⟨⟨A1, c1, A2, c2⟩, op, out⟩ ⟨hop, he⟩
  simp only at hop he ⊢
  have hrm := hroom op out he
  rcases list_snoc op with rfl | ⟨init, i, rfl⟩
  case inr =>
    have hc1 : decide (0 < ((init.length + 1 : Nat) : Int)) = true := by simp
    have hi := hop i (by simp)
    obtain ⟨i, rfl⟩ : ∃ y : Nat, i = y := ⟨i.toNat, by omega⟩
    have hlt : i < ns.length := by omega
    obtain ⟨cs, hcs, kv, rfl, K, kc, rfl, hK, hkc⟩ := hrows.get (List.getElem?_eq_getElem hlt)
    have hwf := hwn _ (List.getElem_mem hlt)
    have hkids := hk i _ (List.getElem?_eq_getElem hlt)
    generalize ns[i] = n at *
    have hlast : (init ++ [(i : Int)])[init.length]? = some (i : Int) := by simp
    have hA' : A = some (A.getD default) := hA.some_ (by omega)
    have hlen1 : (init ++ [(i : Int)]).length = init.length + 1 := by simp
    have he' : (out ++ [(i : Int)]) ++ dfs (revC ch) ns.length (init ++ n.kids).reverse = dfs (revC ch) ns.length [node] := by
      rw [← he, List.reverse_append, List.reverse_append, List.reverse_cons, List.reverse_nil, List.nil_append, List.singleton_append, dfs_cons hch.rev (by omega) (by omega), dfs_append, show revC ch i = (ch i).reverse from rfl, hkids]
      simp
    have hrm' := hroom _ _ he'
    simp only [List.length_append, List.length_cons, List.length_nil] at hrm'
    have hdec : (dfs (revC ch) ns.length (init ++ n.kids).reverse).length < (dfs (revC ch) ns.length (init ++ [(i : Int)]).reverse).length := by
      have h1 := congrArg List.length he
      have h2 := congrArg List.length he'
      simp only [List.length_append, List.length_cons, List.length_nil] at h1 h2
      omega
    have hop' : ∀ x ∈ init ++ n.kids, 0 ≤ x ∧ x < ns.length := by
      intro x hx
      rcases List.mem_append.1 hx with hx | hx
      · exact hop x (by simp [hx])
      · rw [hkids] at hx
        have := hch i x hx
        omega
    rw [hlen1] at hrm ⊢
    refine TC.fact (fun w hw => own.cap (hw.at_all AtA)) (fun hcap : init.length + 1 ≤ c1 => ?_)
    repeat' (first | (apply T.ev_; exact rfl; apply Ev.slice_to (h := init.length); exact rfl; exact rfl; omega) | (refine W1 ?_) | (refine W2 (fun hc => ?_) (fun hc => ?_)) | (intro _))
    have htk : (irows (init ++ [(i : Int)])).take init.length = irows init := by simp [irows]
    refine T.append (rows := irows out) (news := irows [(i : Int)]) rfl rfl rfl DelA (fun w hw => St.own_arr hw AtA) (fun _ _ => irows_oneB _) (by unfold maxLen; omega) (by omega) (fun A3 c3 => ?_)
    refine T.sub (fun w hw => St.weakAt (H := own 3 1 A1 (init.length + 1) c1 (irows (init ++ [(i : Int)]))) (H' := own 3 1 A1 init.length c1 (irows init)) UpdA (fun S w h => htk ▸ own.take (Nat.le_succ _) h) hw) ?_
    repeat' (first | (refine W1 ?_) | (refine W2 (fun hc => ?_) (fun hc => ?_)) | (intro _))
    refine T.append (rows := irows init) (news := irows n.kids) rfl rfl rfl DelA (fun w hw => St.old_arr hw hK) (fun _ _ => irows_oneB _) (by unfold maxLen; omega) (by omega) (fun A4 c4 => ?_)
    repeat' (first | (refine W1 ?_) | (refine W2 (fun hc => ?_) (fun hc => ?_)) | (intro _))
    refine TX.round ((A4, c4, A3, c3), init ++ n.kids, out ++ [(i : Int)]) ⟨hop', he'⟩ hdec ?_ (fun w' h => ?_)
    · refine ⟨?_, ?_, SubA⟩
      · exact congrArg (fun z => some (Value.slice A4 z c4)) (by simp : init.length + n.kids.length = (init ++ n.kids).length)
      · exact congrArg (fun z => some (Value.slice A3 z c3)) (by simp : out.length + 1 = (out ++ [(i : Int)]).length)
    · have := St.inc (L' := [own 3 1 A3 (out.length + 1) c3 (irows out ++ irows [(i : Int)]), own 3 1 A4 (init.length + n.kids.length) c4 (irows init ++ irows n.kids), blk b4 [.slice none 0 0, .int .i64 0] 24, blk b2 [.slice A ns.length c, .int .i64 root] 24]) IncA h
      simpa only [irows_append, List.length_append, List.length_cons, List.length_nil] using this
  case inl =>
    have hc1 : decide (0 < (([] : List Int).length : Int)) = false := by simp
    simp only [List.reverse_nil, dfs_nil, List.append_nil] at he
    have hlo : out.reverse = l := by rw [← hl, he, show [node] = [node].reverse from rfl, dfs_rev]; rfl
    have hol : out.length = l.length := by rw [← hlo]; simp
    have hm2 : 8 * ns.length ≤ 281474976710656 := by omega
    clear he hop hrm hroom
    repeat' (first | (refine W1 ?_) | (refine W2 (fun hc => ?_) (fun hc => ?_)) | (intro _))
    rename_i B9
    refine TC.loopA (ι := Int × (Option Addr × Nat) × List (List Value) × Nat × List Int × List Nod) (((out.length - 1 : Nat) : Int), (none, 0), [], 0, List.replicate ns.length 0, [])
      (fun k r => (11, .int .i64 k.1) :: (10, .slice k.2.1.1 k.2.2.2.1 k.2.1.2) :: r)
      (fun k => St w [own 34 9 k.2.1.1 k.2.2.2.1 k.2.1.2 k.2.2.1, hRows k.2.2.1 k.2.2.2.2.2, own 3 1 (some ⟨B9, 0, none⟩) ns.length ns.length (irows k.2.2.2.2.1), own 3 1 A2 out.length c2 (irows out), blk b4 [.slice none 0 0, .int .i64 0] 24, blk b2 [.slice A ns.length c, .int .i64 root] 24])
      (fun k => k.1 = (l.length : Int) - 1 - k.2.2.2.1 ∧ k.2.2.2.1 ≤ l.length ∧ k.2.2.2.2.1.length = ns.length ∧ k.2.2.2.2.2.length = k.2.2.2.1 ∧ k.2.2.2.2.2 ++ takenGo ns k.2.2.2.1 k.2.2.2.2.1 (l.drop k.2.2.2.1) = takenGo ns 0 (List.replicate ns.length 0) l)
      (fun k => l.length - k.2.2.2.1) KpA SubA (fun w' hw => by
        rw [irows_rep] at hw
        exact St.inc IncA (St.own_nil (e := 34) (sz := 9) (St.rows_nil hw))) ⟨by simp only; omega, by simp, by simp, by simp, by simp⟩ ?_
    rintro ⟨x, ⟨A5, c5⟩, rows, j, pl, outN⟩ ⟨hx, hj, hpl, hoN, he⟩
    simp only at hx hj hpl hoN he ⊢
    by_cases hlt : j < l.length
    · obtain ⟨i, rfl⟩ : ∃ i : Nat, x = i := ⟨x.toNat, by omega⟩
      have hck : decide (0 ≤ (i : Int)) = true := by simp
      have hil : i < out.length := by omega
      have hlk : out[i]? = some l[j] := by
        rw [← List.getElem?_eq_getElem hlt, ← hlo, List.getElem?_reverse (by omega)]
        congr 1
        omega
      have hd : l.drop j = l[j] :: l.drop (j + 1) := List.drop_eq_getElem_cons hlt
      have hm := hbm _ (List.getElem_mem hlt)
      rw [hd, takenGo] at he
      generalize l[j] = y at *
      obtain ⟨y, rfl⟩ : ∃ z : Nat, y = z := ⟨y.toNat, by omega⟩
      have hy : y < ns.length := by omega
      have hns : ns[y]? = some ns[y] := List.getElem?_eq_getElem hy
      obtain ⟨cs, hcs, kv, rfl, K, kc, rfl, hK, hkc⟩ := hrows.get hns
      have hwf := hwn _ (List.getElem_mem hy)
      have hko := hR.kok y _ hns
      have hkl := hwf.kids.1
      simp only [Int.toNat_natCast, List.getD_eq_getElem?_getD, hns, Option.getD_some] at he
      generalize ns[y] = n at *
      unfold bigL at hkl
      have hA' : A = some (A.getD default) := hA.some_ (by omega)
      have hpx : pl[y]? = some pl[y] := List.getElem?_eq_getElem (by omega)
      refine TC.fact (φ := A2 = some (A2.getD default)) (fun w hw => (St.own_arr (rows := irows out) hw AtA).some_ (by omega)) (fun hA2 => ?_)
      repeat' (first | (refine W1 ?_) | (refine W2 (fun hc => ?_) (fun hc => ?_)) | (intro _))
      refine T.storeA (i := y) (o := 0) (r := [.int .i64 pl[y]]) rfl rfl rfl rfl rfl rfl UpdA (by omega) (irows_get hpx) (by simp) ?_
      have e1 : (irows pl).set y (splice [.int .i64 pl[y]] 0 [.int .i64 j]) = irows (pl.set y j) := (irows_set pl y j).symm
      rw [e1]
      repeat' (first | (refine W1 ?_) | (refine W2 (fun hc => ?_) (fun hc => ?_)) | (intro _))
      rename_i b12 _
      refine TC.loopA (ι := (Option Addr × Nat) × Nat) ((none, 0), 0) (fun k r => (13, .slice k.1.1 k.2 k.1.2) :: (14, .int .i64 k.2) :: r)
        (fun k => St w [own 3 1 k.1.1 k.2 k.1.2 (irows ((n.kids.take k.2).map (fun y1 : Int => (pl.set y (j : Int))[y1.toNat]?.getD 0))), blk b12 (n.cells (.slice K n.kids.length kc)) 34, own 34 9 A5 j c5 rows, hRows rows outN, own 3 1 (some ⟨B9, 0, none⟩) ns.length ns.length (irows (pl.set y (j : Int))), own 3 1 A2 out.length c2 (irows out), blk b4 [.slice none 0 0, .int .i64 0] 24, blk b2 [.slice A ns.length c, .int .i64 root] 24])
        (fun k => k.2 ≤ n.kids.length) (fun k => n.kids.length - k.2) KpA SubA (fun w' hw => by simp only [List.take_zero, List.map_nil]; exact St.inc IncA (St.own_nil (e := 3) (sz := 1) hw)) (Nat.zero_le _) ?_
      rintro ⟨⟨A6, c6⟩, k⟩ hkk
      simp only at hkk ⊢
      by_cases hkl2 : k < n.kids.length
      · have hcj : decide ((k : Int) < (n.kids.length : Int)) = true := by simp [hkl2]
        have hjk : n.kids[k]? = some n.kids[k] := List.getElem?_eq_getElem hkl2
        have htk : n.kids.take (k + 1) = n.kids.take k ++ [n.kids[k]] := List.take_succ_eq_append_getElem hkl2
        have hko := hko _ (List.getElem_mem hkl2)
        generalize n.kids[k] = z at *
        obtain ⟨z, rfl⟩ : ∃ z' : Nat, z = z' := ⟨z.toNat, by omega⟩
        have hz : z < ns.length := by omega
        have hzp : (pl.set y (j : Int))[z]? = some ((pl.set y (j : Int))[z]?.getD 0) := by
          rw [List.getElem?_eq_getElem (by simp; omega)]
          rfl
        have hKs : K = some (K.getD default) := hK.some_ (by omega)
        repeat' (first | (refine W1 ?_) | (refine W2 (fun hc => ?_) (fun hc => ?_)) | (intro _))
        refine T.append (rows := irows ((n.kids.take k).map (fun y1 : Int => (pl.set y (j : Int))[y1.toNat]?.getD 0))) (news := irows [(pl.set y (j : Int))[z]?.getD 0]) rfl rfl rfl DelA (fun w hw => St.own_arr hw AtA) (fun _ _ => irows_oneB _) (by unfold maxLen; omega) (by omega) (fun A7 c7 => ?_)
        repeat' (first | (refine W1 ?_) | (refine W2 (fun hc => ?_) (fun hc => ?_)) | (intro _))
        refine TX.round ((A7, c7), k + 1) hkl2 (show n.kids.length - (k + 1) < n.kids.length - k by omega) SubA (fun w' hw => ?_)
        rw [htk, List.map_append, irows_append]
        exact St.inc IncA hw
      · have hcj : decide ((k : Int) < (n.kids.length : Int)) = false := by simp; omega
        obtain rfl : k = n.kids.length := by omega
        rw [List.take_of_length_le (Nat.le_refl _)]
        repeat' (first | (refine W1 ?_) | (refine W2 (fun hc => ?_) (fun hc => ?_)) | (intro _))
        refine T.append (rows := rows) (news := [({ n with kids := n.kids.map (fun y1 : Int => (pl.set y (j : Int))[y1.toNat]?.getD 0) }).cells (.slice A6 n.kids.length c6)]) rfl rfl rfl DelA (fun w hw => St.own_arr hw AtA) (fun _ _ r hr => by simp at hr; subst hr; rfl) (by unfold maxLen; omega) (by omega) (fun A8 c8 => ?_)
        repeat' (first | (refine W1 ?_) | (refine W2 (fun hc => ?_) (fun hc => ?_)) | (intro _))
        refine TX.round ((i : Int) - 1, (A8, c8), rows ++ [({ n with kids := n.kids.map (fun y1 : Int => (pl.set y (j : Int))[y1.toNat]?.getD 0) }).cells (.slice A6 n.kids.length c6)], j + 1, pl.set y (j : Int), outN ++ [{ n with kids := n.kids.map (fun y1 : Int => (pl.set y (j : Int))[y1.toNat]?.getD 0) }]) ⟨by show (i : Int) - 1 = (l.length : Int) - 1 - ((j + 1 : Nat) : Int); omega, hlt, by simp [hpl], by simp [hoN], ?_⟩ (show l.length - (j + 1) < l.length - j by omega) SubA (fun w' hw => ?_)
        · rw [List.append_assoc]
          exact he
        · have h0 := St.del (H := hRows rows outN) DelA hw
          have h1 := St.del (H := own 3 1 A6 n.kids.length c6 (irows (n.kids.map (fun y1 : Int => (pl.set y (j : Int))[y1.toNat]?.getD 0)))) DelA h0
          exact St.inc IncA (St.joinX (K := hRows (rows ++ [({ n with kids := n.kids.map (fun y1 : Int => (pl.set y (j : Int))[y1.toNat]?.getD 0) }).cells (.slice A6 n.kids.length c6)]) (outN ++ [{ n with kids := n.kids.map (fun y1 : Int => (pl.set y (j : Int))[y1.toNat]?.getD 0) }])) (fun S S' w h h' hd => hRows_snoc (n := { n with kids := n.kids.map (fun y1 : Int => (pl.set y (j : Int))[y1.toNat]?.getD 0) }) (by simp) h h' hd) h1)
    · have hck : decide (0 ≤ x) = false := by simp; omega
      have hd : l.drop j = [] := List.drop_of_length_le (by omega)
      rw [hd, takenGo, List.append_nil] at he
      obtain rfl : j = l.length := by omega
      repeat' (first | (refine W1 ?_) | (refine W2 (fun hc => ?_) (fun hc => ?_)) | (intro _))
      refine TX.ret_gen (rs := [.cell 4 24, .tmp 5]) (vs := [.agg #[.slice A5 l.length c5, .int .i64 ((l.length - 1 : Nat) : Int)], .bool true]) rfl (.cell rfl (blk_res (cs := [.slice A5 l.length c5, .int .i64 ((l.length - 1 : Nat) : Int)]) AtA rfl) (.tmp rfl .nil)) (fun w' hw => ?_)
      have h0 := St.del (H := hRows rows outN) DelA hw
      have h1 := St.del (H := own 34 9 A5 l.length c5 rows) DelA h0
      rw [← hoN] at h1
      have h2 := St.joinX (K := hNodes (.slice A5 outN.length c5) outN) (fun S S' w h h' hd => hNodes_join h h' hd) h1
      rw [← he, show ((l.length : Int) - 1) = ((l.length - 1 : Nat) : Int) by omega, ← hoN]
      exact Ret.mk (A5, c5) trivial (.cons .here .nil) h2

theorem rclean_any (v : Value) (t : Tre) (w : World) (hr : RTree (Old w) w v t) (ht : t.wf) (hkt : (allKids t.nodes).length ≤ bigL) :
    Calls Tryd.prog 51 #[v] w (RetT w (cleanP t)) := by
  have hr0 := hr
  obtain ⟨nv, rfl, A, c, rows0, rfl, hA, hrows, hc⟩ := hr
  have e : (subP t t.root).1 = cleanP t := by
    cases hri : rightP t with
    | false => rw [subP_no (by rw [hri]; simp)]; unfold cleanP; rw [if_neg (by rw [hri]; simp)]
    | true =>
      have hR := (rightP_spec hri).root
      rw [subP_yes hri hR.1 hR.2]; unfold cleanP; rw [if_pos hri]
  rw [← e]
  refine TC.calls (l := [.agg #[.slice A t.nodes.length c, .int .i64 t.root]]) Tryd.func51 rfl Tryd.ntmps51 rfl (St.start w) ?_
  repeat' (first | (refine T.callR rfl rfl (fun w' hw' => rsub_any _ t t.root w' (St.old_tree hw' hr0) ht hkt) (fun p _ => ?_)) | (refine W1 ?_) | (refine W2 (fun hc => ?_) (fun hc => ?_)) | (intro _))
  refine TX.ret_gen (rs := [.cell 2 24]) (vs := [.agg #[.slice p.1 (subP t t.root).1.nodes.length p.2, .int .i64 (subP t t.root).1.root]]) rfl (.cell rfl (blk_res (cs := [.slice p.1 (subP t t.root).1.nodes.length p.2, .int .i64 (subP t t.root).1.root]) AtA rfl) .nil) (fun w' hw => ?_)
  exact Ret.mk p trivial (.cons DelA .nil) hw

theorem sub_any (v : Value) (t : Tre) (node : Int) (w : World) (hr : RTree (Old w) w v t) (ht : t.wf) (hT : Tab w) :
    Calls Tryd.prog 42 #[v, .int .i64 node] w (RetTB w (subP t node)) := by
  have hr0 := hr
  obtain ⟨nv, rfl, A, c, rows0, rfl, hA, hrows, hc⟩ := hr
  refine TC.calls (l := [.agg #[.slice A t.nodes.length c, .int .i64 t.root], .int .i64 node]) Tryd.func42 rfl Tryd.ntmps42 rfl (St.start w) ?_
  by_cases hyes : rightP t = true ∧ 0 ≤ node ∧ node < t.nodes.length
  case neg =>
    rw [subP_no hyes]
    repeat' (first | (refine T.callV rfl rfl (fun w' hw' => right_any _ t w' (St.old_tree hw' hr0) ht (Tab.st hT hw')) ?_) | (refine TC.holdR 3 ?_) | (refine W1 ?_) | (refine W2 (fun hc => ?_) (fun hc => ?_)) | (intro _))
    all_goals first
      | (refine TX.ret_gen (rs := [.cell 4 24, .tmp 5]) (vs := [.agg #[.slice none 0 0, .int .i64 0], .bool false]) rfl (.cell rfl (blk_res (cs := [.slice none 0 0, .int .i64 0]) AtA rfl) (.tmp rfl .nil)) (fun w' hw => ?_)
         have h1 := St.push (H := hNodes (.slice none 0 0) []) hw Chg.refl hNodes_nil
         exact Ret.mk ((none : Option Addr), 0) trivial (.cons .here .nil) h1)
      | (exfalso; simp_all; done)
      | (exfalso; simp_all; omega)
  obtain ⟨hri, h0, hn⟩ := hyes
  rw [subP_yes hri h0 hn]
  have hR := rightP_spec hri
  have q1 : (!rightP t) = false := by rw [hri]; rfl
  have q2 : decide (node < 0) = false := by simp; omega
  have q3 : decide ((t.nodes.length : Int) ≤ node) = false := by simp; omega
  repeat' (first | (refine T.callV rfl rfl (fun w' hw' => right_any _ t w' (St.old_tree hw' hr0) ht (Tab.st hT hw')) ?_) | (refine T.callR rfl rfl (fun w' hw' => taken_any _ t node w' (St.old_tree hw' hr0) ht hR h0 hn) (fun p _ => ?_)) | (refine W1 ?_) | (refine W2 (fun hc => ?_) (fun hc => ?_)) | (intro _))
  refine TX.ret_gen (rs := [.cell 4 24, .tmp 5]) (vs := [.agg #[.slice p.1 (takenP t node).nodes.length p.2, .int .i64 (takenP t node).root], .bool true]) rfl (.cell rfl (blk_res (cs := [.slice p.1 (takenP t node).nodes.length p.2, .int .i64 (takenP t node).root]) AtA rfl) (.tmp rfl .nil)) (fun w' hw => ?_)
  exact Ret.mk p trivial (.cons DelA .nil) hw
end Go.Proofs.YtlhkkngpppcfoaaDoor
