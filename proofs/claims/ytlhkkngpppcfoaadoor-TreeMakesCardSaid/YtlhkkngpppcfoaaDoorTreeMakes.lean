/-
  The law TreeMakes, walked: it answers true for every node, every number, every trees.
-/
import Derived.Test.YtlhkkngpppcfoaaDoorWorks
import Derived.Test.YtlhkkngpppcfoaaDoorRefOf
import Derived.Test.YtlhkkngpppcfoaaDoorMakesHelp
set_option linter.all false
namespace Go.Bonsai
open Go Go.Sl Go.RowKit
theorem plainN_wf {k : Int} {s : Bts} {x : ByteArray} (hk : 0 ≤ k ∧ k ≤ 255) (hs : s.wf) (hx : x.size ≤ 140737488355328) : (⟨k, s, x, 0, 0, []⟩ : Nod).wf :=
  ⟨hk, hs, hx, by show I64 0; unfold I64; decide, by show I64 0; unfold I64; decide, ⟨by simp, by simp⟩⟩
theorem St.getTrees {w0 w : World} {L : List HP} {v : Value} {ts : List Tre} (h : St w0 L w) (ha : At L (hTrees v ts)) : RTrees (Old w) w v ts := hTrees_on (h.at_all ha)
end Go.Bonsai
namespace Go.Proofs.YtlhkkngpppcfoaaDoor
open Go Go.Sl Go.RowKit Go.Bonsai
set_option linter.unusedVariables false
set_option linter.unusedSimpArgs false

set_option maxHeartbeats 2000000 in
theorem treeMakes_any (kv v3 : Value) (n : Nod) (cnt : Int) (l : List Tre) (w : World) (hrn : RNode (Old w) w (n.cells kv) n) (hr3 : RTrees (Old w) w v3 l) (hwn : n.wf) (hwc : (Lit.int .i64 cnt).wf = true) (hl : l.length ≤ 4398046511104) (hw1 : ∀ x ∈ l, x.wf) (hT : Tab w) :
    Calls Tryd.prog 4 #[.agg (n.cells kv).toArray, .int .i64 cnt, v3] w (RetV w (.bool true)) := by
  have h1 := hr3
  obtain ⟨A1, c1, rows1, rfl, hA1, hrows1, hc1⟩ := hr3
  have hwo : ∀ x ∈ [(⟨[n], 0⟩ : Tre)], x.wf := by
    intro x hx
    simp at hx
    subst hx
    exact leafP_wf hwn
  refine TC.calls (l := [.agg (n.cells kv).toArray, .int .i64 cnt, .slice A1 l.length c1]) Tryd.func4 rfl Tryd.ntmps4 rfl (St.start w) ?_
  repeat' (first | (refine W1 ?_) | (refine W2 (fun hc => ?_) (fun hc => ?_)) | (intro _))
  rename_i b0
  refine T.callR rfl rfl (fun w' hw' => long_any _ l w' (St.old_trees hw' h1) hl hw1) (fun bb hs1 => ?_)
  cases bb with
  | true =>
    repeat' (first | (refine W1 ?_) | (refine W2 (fun hc => ?_) (fun hc => ?_)) | (intro _) | (apply T.callV (f := 16); (exact rfl); (exact rfl); (intro w' hw'; apply works_any; (exact Tab.st hT hw'))) | (apply TL.kcallV (f := 16); (exact rfl); (intro w' hw'; apply works_any; (exact Tab.st hT hw')); (exact rfl); (exact rfl); (exact DropA)))
    exact TX.ret_tmp rfl rfl (fun w' hw => RetV.eq hw rfl)
  | false =>
  repeat' (first | (refine W1 ?_) | (refine W2 (fun hc => ?_) (fun hc => ?_)) | (intro _))
  rename_i B1 B2
  refine T.callR rfl rfl (fun w' hw' => long_any _ [⟨[n], 0⟩] w' (RTrees.oneN hw' (cs := n.cells kv) AtA AtA (RNode.old hw' hrn)) (by simp) hwo) (fun bb hs3 => ?_)
  cases bb with
  | true =>
    repeat' (first | (refine W1 ?_) | (refine W2 (fun hc => ?_) (fun hc => ?_)) | (intro _) | (apply T.callV (f := 16); (exact rfl); (exact rfl); (intro w' hw'; apply works_any; (exact Tab.st hT hw'))) | (apply TL.kcallV (f := 16); (exact rfl); (intro w' hw'; apply works_any; (exact Tab.st hT hw')); (exact rfl); (exact rfl); (exact DropA)))
    exact TX.ret_tmp rfl rfl (fun w' hw => RetV.eq hw rfl)
  | false =>
  have hS : l.length + tot l + totK l < 4000 := hs1 rfl
  have hkl : ∀ t ∈ l, (allKids t.nodes).length ≤ bigL := fun t ht => by have := totK_le ht; unfold bigL; omega
  clear hs1 hs3
  repeat' (first | (refine TC.hold 3 ?_) | (refine W1 ?_) | (refine W2 (fun hc => ?_) (fun hc => ?_)) | (intro _))
  have q0 : (!(fits n cnt == fits n cnt)) = false := by simp
  refine ⟨TC.cutA (ι := Unit) (fun _ r => r) (fun _ => St w [blk b0 (n.cells kv) 34]) KpA ?_ (fun _ => ?_)⟩
  · apply TC.seq
    refine TC.lexT [] (.seg [0, 1, 3, 4, 2, 5, 6, 7, 9, 8, 10, 11, 12, 13, 14, 15, 16, 18, 19, 20, 17, 21, 22, 23, 24, 25, 26, 27, 29, 30, 31, 28, 32, 33, 34, 35, 36, 37, 38, 40, 41, 42, 39, 43, 44, 45, 46] .fin) mixed (by kernel_rfl) (TT.seg rfl ?_)
    have w0 : (⟨[⟨0, .zero, ⟨#[]⟩, 0, 0, []⟩], 0⟩ : Tre).wf := leafP_wf emptyN_wf
    have w1 : (⟨[⟨1, n.set, ⟨#[]⟩, 0, 0, []⟩], 0⟩ : Tre).wf := leafP_wf (plainN_wf (by decide) hwn.set (by decide))
    have w2 : (⟨[⟨2, .zero, n.text, 0, 0, []⟩], 0⟩ : Tre).wf := leafP_wf (plainN_wf (by decide) emptyN_wf.set hwn.text)
    have w3 : (⟨[⟨3, .zero, n.text, 0, 0, []⟩], 0⟩ : Tre).wf := leafP_wf (plainN_wf (by decide) emptyN_wf.set hwn.text)
    have e0 : (!decide ((⟨[⟨0, .zero, ⟨#[]⟩, 0, 0, []⟩], 0⟩ : Tre) = ⟨[⟨0, .zero, ⟨#[]⟩, 0, 0, []⟩], 0⟩)) = false := by simp
    have e1 : (!decide ((⟨[⟨1, n.set, ⟨#[]⟩, 0, 0, []⟩], 0⟩ : Tre) = ⟨[⟨1, n.set, ⟨#[]⟩, 0, 0, []⟩], 0⟩)) = false := by simp
    have e2 : (!decide ((⟨[⟨2, .zero, n.text, 0, 0, []⟩], 0⟩ : Tre) = ⟨[⟨2, .zero, n.text, 0, 0, []⟩], 0⟩)) = false := by simp
    have e3 : (!decide ((⟨[⟨3, .zero, n.text, 0, 0, []⟩], 0⟩ : Tre) = ⟨[⟨3, .zero, n.text, 0, 0, []⟩], 0⟩)) = false := by simp
    have hset : n.set = ⟨n.set.a, n.set.b, n.set.c, n.set.d⟩ := rfl
    repeat' (first | (apply TL.kcallR (f := 25); (exact rfl); (intro w' hw'; exact tree_set n.set w'); (exact rfl); (exact rfl); (exact DropA)) | (apply TX.tree) | (apply TT.fin) | (refine W1 ?_) | (refine W2 (fun hc => ?_) (fun hc => ?_)) | (intro _) | (apply T.callV (f := 20); (exact rfl); (exact rfl); (intro w' hw'; apply fits_any; (exact Tab.st hT hw'); (assumption))) | (apply TL.kcallV (f := 20); (exact rfl); (intro w' hw'; apply fits_any; (exact Tab.st hT hw'); (assumption)); (exact rfl); (exact rfl); (exact DropA)) | (apply T.callV (f := 21); (exact rfl); (exact rfl); (intro w' hw'; apply rfits_any; (assumption))) | (apply TL.kcallV (f := 21); (exact rfl); (intro w' hw'; apply rfits_any; (assumption)); (exact rfl); (exact rfl); (exact DropA)) | (apply T.callR (f := 23); (exact rfl); (exact rfl); (intro w' hw'; apply tree_empty)) | (apply TL.kcallR (f := 23); (exact rfl); (intro w' hw'; apply tree_empty); (exact rfl); (exact rfl); (exact DropA)) | (apply T.callR (f := 26); (exact rfl); (exact rfl); (intro w' hw'; apply tree_text)) | (apply TL.kcallR (f := 26); (exact rfl); (intro w' hw'; apply tree_text); (exact rfl); (exact rfl); (exact DropA)) | (apply T.callR (f := 27); (exact rfl); (exact rfl); (intro w' hw'; apply tree_rule)) | (apply TL.kcallR (f := 27); (exact rfl); (intro w' hw'; apply tree_rule); (exact rfl); (exact rfl); (exact DropA)) | (apply T.callV (f := 22); (exact rfl); (exact rfl); (intro w' hw'; apply exact_any; (first | exact St.old_tree hw' (by assumption) | exact St.get_treeN hw' AtA); (first | exact St.old_tree hw' (by assumption) | exact St.get_treeN hw' AtA); (assumption); (assumption))) | (apply TL.kcallV (f := 22); (exact rfl); (intro w' hw'; apply exact_any; (first | exact St.old_tree hw' (by assumption) | exact St.get_treeN hw' AtA); (first | exact St.old_tree hw' (by assumption) | exact St.get_treeN hw' AtA); (assumption); (assumption)); (exact rfl); (exact rfl); (exact DropA)))
    refine TL.kcallR (f := 24) rfl (fun w' hw' => rleaf_any ⟨0, .zero, ⟨#[]⟩, 0, 0, []⟩ w' rfl) rfl rfl DropA (fun _ _ => ?_)
    repeat' (first | (apply TL.kcallR (f := 25); (exact rfl); (intro w' hw'; exact tree_set n.set w'); (exact rfl); (exact rfl); (exact DropA)) | (apply TX.tree) | (apply TT.fin) | (refine W1 ?_) | (refine W2 (fun hc => ?_) (fun hc => ?_)) | (intro _) | (apply T.callV (f := 20); (exact rfl); (exact rfl); (intro w' hw'; apply fits_any; (exact Tab.st hT hw'); (assumption))) | (apply TL.kcallV (f := 20); (exact rfl); (intro w' hw'; apply fits_any; (exact Tab.st hT hw'); (assumption)); (exact rfl); (exact rfl); (exact DropA)) | (apply T.callV (f := 21); (exact rfl); (exact rfl); (intro w' hw'; apply rfits_any; (assumption))) | (apply TL.kcallV (f := 21); (exact rfl); (intro w' hw'; apply rfits_any; (assumption)); (exact rfl); (exact rfl); (exact DropA)) | (apply T.callR (f := 23); (exact rfl); (exact rfl); (intro w' hw'; apply tree_empty)) | (apply TL.kcallR (f := 23); (exact rfl); (intro w' hw'; apply tree_empty); (exact rfl); (exact rfl); (exact DropA)) | (apply T.callR (f := 26); (exact rfl); (exact rfl); (intro w' hw'; apply tree_text)) | (apply TL.kcallR (f := 26); (exact rfl); (intro w' hw'; apply tree_text); (exact rfl); (exact rfl); (exact DropA)) | (apply T.callR (f := 27); (exact rfl); (exact rfl); (intro w' hw'; apply tree_rule)) | (apply TL.kcallR (f := 27); (exact rfl); (intro w' hw'; apply tree_rule); (exact rfl); (exact rfl); (exact DropA)) | (apply T.callV (f := 22); (exact rfl); (exact rfl); (intro w' hw'; apply exact_any; (first | exact St.old_tree hw' (by assumption) | exact St.get_treeN hw' AtA); (first | exact St.old_tree hw' (by assumption) | exact St.get_treeN hw' AtA); (assumption); (assumption))) | (apply TL.kcallV (f := 22); (exact rfl); (intro w' hw'; apply exact_any; (first | exact St.old_tree hw' (by assumption) | exact St.get_treeN hw' AtA); (first | exact St.old_tree hw' (by assumption) | exact St.get_treeN hw' AtA); (assumption); (assumption)); (exact rfl); (exact rfl); (exact DropA)))
    refine TL.kcallR (f := 24) rfl (fun w' hw' => rleaf_any ⟨1, n.set, ⟨#[]⟩, 0, 0, []⟩ w' rfl) rfl rfl DropA (fun _ _ => ?_)
    repeat' (first | (apply TL.kcallR (f := 25); (exact rfl); (intro w' hw'; exact tree_set n.set w'); (exact rfl); (exact rfl); (exact DropA)) | (apply TX.tree) | (apply TT.fin) | (refine W1 ?_) | (refine W2 (fun hc => ?_) (fun hc => ?_)) | (intro _) | (apply T.callV (f := 20); (exact rfl); (exact rfl); (intro w' hw'; apply fits_any; (exact Tab.st hT hw'); (assumption))) | (apply TL.kcallV (f := 20); (exact rfl); (intro w' hw'; apply fits_any; (exact Tab.st hT hw'); (assumption)); (exact rfl); (exact rfl); (exact DropA)) | (apply T.callV (f := 21); (exact rfl); (exact rfl); (intro w' hw'; apply rfits_any; (assumption))) | (apply TL.kcallV (f := 21); (exact rfl); (intro w' hw'; apply rfits_any; (assumption)); (exact rfl); (exact rfl); (exact DropA)) | (apply T.callR (f := 23); (exact rfl); (exact rfl); (intro w' hw'; apply tree_empty)) | (apply TL.kcallR (f := 23); (exact rfl); (intro w' hw'; apply tree_empty); (exact rfl); (exact rfl); (exact DropA)) | (apply T.callR (f := 26); (exact rfl); (exact rfl); (intro w' hw'; apply tree_text)) | (apply TL.kcallR (f := 26); (exact rfl); (intro w' hw'; apply tree_text); (exact rfl); (exact rfl); (exact DropA)) | (apply T.callR (f := 27); (exact rfl); (exact rfl); (intro w' hw'; apply tree_rule)) | (apply TL.kcallR (f := 27); (exact rfl); (intro w' hw'; apply tree_rule); (exact rfl); (exact rfl); (exact DropA)) | (apply T.callV (f := 22); (exact rfl); (exact rfl); (intro w' hw'; apply exact_any; (first | exact St.old_tree hw' (by assumption) | exact St.get_treeN hw' AtA); (first | exact St.old_tree hw' (by assumption) | exact St.get_treeN hw' AtA); (assumption); (assumption))) | (apply TL.kcallV (f := 22); (exact rfl); (intro w' hw'; apply exact_any; (first | exact St.old_tree hw' (by assumption) | exact St.get_treeN hw' AtA); (first | exact St.old_tree hw' (by assumption) | exact St.get_treeN hw' AtA); (assumption); (assumption)); (exact rfl); (exact rfl); (exact DropA)))
    refine TL.kcallR (f := 24) rfl (fun w' hw' => rleaf_any ⟨2, .zero, n.text, 0, 0, []⟩ w' rfl) rfl rfl DropA (fun _ _ => ?_)
    repeat' (first | (apply TL.kcallR (f := 25); (exact rfl); (intro w' hw'; exact tree_set n.set w'); (exact rfl); (exact rfl); (exact DropA)) | (apply TX.tree) | (apply TT.fin) | (refine W1 ?_) | (refine W2 (fun hc => ?_) (fun hc => ?_)) | (intro _) | (apply T.callV (f := 20); (exact rfl); (exact rfl); (intro w' hw'; apply fits_any; (exact Tab.st hT hw'); (assumption))) | (apply TL.kcallV (f := 20); (exact rfl); (intro w' hw'; apply fits_any; (exact Tab.st hT hw'); (assumption)); (exact rfl); (exact rfl); (exact DropA)) | (apply T.callV (f := 21); (exact rfl); (exact rfl); (intro w' hw'; apply rfits_any; (assumption))) | (apply TL.kcallV (f := 21); (exact rfl); (intro w' hw'; apply rfits_any; (assumption)); (exact rfl); (exact rfl); (exact DropA)) | (apply T.callR (f := 23); (exact rfl); (exact rfl); (intro w' hw'; apply tree_empty)) | (apply TL.kcallR (f := 23); (exact rfl); (intro w' hw'; apply tree_empty); (exact rfl); (exact rfl); (exact DropA)) | (apply T.callR (f := 26); (exact rfl); (exact rfl); (intro w' hw'; apply tree_text)) | (apply TL.kcallR (f := 26); (exact rfl); (intro w' hw'; apply tree_text); (exact rfl); (exact rfl); (exact DropA)) | (apply T.callR (f := 27); (exact rfl); (exact rfl); (intro w' hw'; apply tree_rule)) | (apply TL.kcallR (f := 27); (exact rfl); (intro w' hw'; apply tree_rule); (exact rfl); (exact rfl); (exact DropA)) | (apply T.callV (f := 22); (exact rfl); (exact rfl); (intro w' hw'; apply exact_any; (first | exact St.old_tree hw' (by assumption) | exact St.get_treeN hw' AtA); (first | exact St.old_tree hw' (by assumption) | exact St.get_treeN hw' AtA); (assumption); (assumption))) | (apply TL.kcallV (f := 22); (exact rfl); (intro w' hw'; apply exact_any; (first | exact St.old_tree hw' (by assumption) | exact St.get_treeN hw' AtA); (first | exact St.old_tree hw' (by assumption) | exact St.get_treeN hw' AtA); (assumption); (assumption)); (exact rfl); (exact rfl); (exact DropA)))
    refine TL.kcallR (f := 24) rfl (fun w' hw' => rleaf_any ⟨3, .zero, n.text, 0, 0, []⟩ w' rfl) rfl rfl (fun _ h => h.drop 7) (fun _ _ => ?_)
    repeat' (first | (refine W1 ?_) | (refine W2 (fun hc => ?_) (fun hc => ?_)) | (intro _))
    refine TL.kcallV rfl (fun w' hw' => exact_any _ _ ⟨[⟨3, .zero, n.text, 0, 0, []⟩], 0⟩ ⟨[⟨3, .zero, n.text, 0, 0, []⟩], 0⟩ w' (St.get_treeN hw' AtA) (St.get_treeN hw' AtA) w3 w3) rfl rfl (fun _ h => h.drop 8) ?_
    repeat' (first | (apply TX.tree) | (apply TT.fin) | (refine W1 ?_) | (refine W2 (fun hc => ?_) (fun hc => ?_)) | (intro _))
    apply TX.join ()
    exact SubA
    exact fun w' hw => St.inc IncA hw
  · clear q0
    have hto : tot l + 1 ≤ bigN := by unfold bigN; omega
    have hlN : l.length ≤ bigN := by unfold bigN; omega
    repeat' (first | (refine W1 ?_) | (refine W2 (fun hc => ?_) (fun hc => ?_)) | (intro _))
    refine TC.loopA (ι := (Option Addr × Nat) × Nat × List (List Value)) ((none, 0), 0, []) (fun k r => (7, .slice k.1.1 k.2.1 k.1.2) :: (8, .int .i64 k.2.1) :: r)
      (fun k => St w [own 24 2 k.1.1 k.2.1 k.1.2 k.2.2, hTR k.2.2 (l.take k.2.1), blk b0 (n.cells kv) 34]) (fun k => k.2.1 ≤ l.length) (fun k => l.length - k.2.1) KpA SubA
      (fun w' hw => St.inc IncA (St.own_nil (e := 24) (sz := 2) (St.trs_nil hw))) (Nat.zero_le _) ?_
    rintro ⟨⟨A, c⟩, i, rows⟩ hi
    simp only at hi ⊢
    by_cases hlt : i < l.length
    · have hck : decide ((i : Int) < (l.length : Int)) = true := by simp [hlt]
      obtain ⟨cs, hcs, hrc⟩ := hrows1.get (List.getElem?_eq_getElem hlt)
      have hwt := hw1 _ (List.getElem_mem hlt)
      have htk : l.take (i + 1) = l.take i ++ [l[i]] := List.take_succ_eq_append_getElem hlt
      generalize l[i] = x at *
      have hrt := hrc.tree
      obtain ⟨K, kc, rfl, _⟩ := hrc
      have hA' : A1 = some (A1.getD default) := hA1.some_ (by omega)
      repeat' (first | (refine W1 ?_) | (refine W2 (fun hc => ?_) (fun hc => ?_)) | (intro _))
      refine T.callR rfl rfl (fun w' hw' => own_any _ x w' (St.old_tree hw' hrt) hwt) (fun p _ => ?_)
      repeat' (first | (refine W1 ?_) | (refine W2 (fun hc => ?_) (fun hc => ?_)) | (intro _))
      refine T.append (rows := rows) (news := [[.slice p.1 x.nodes.length p.2, .int .i64 x.root]]) rfl rfl rfl DelA (fun w hw => St.own_arr hw AtA) (fun _ _ r hr => by simp at hr; subst hr; rfl) (by unfold maxLen; omega) (by omega) (fun A7 c7 => ?_)
      repeat' (first | (refine W1 ?_) | (refine W2 (fun hc => ?_) (fun hc => ?_)) | (intro _))
      refine TX.round ((A7, c7), i + 1, rows ++ [[.slice p.1 x.nodes.length p.2, .int .i64 x.root]]) hlt (show l.length - (i + 1) < l.length - i by omega) SubA (fun w' hw => ?_)
      have h0 := St.del (H := hTR rows (l.take i)) DelA hw
      have h1 := St.del (H := hNodes (.slice p.1 x.nodes.length p.2) x.nodes) DelA h0
      have h2 := St.joinX (K := hTR (rows ++ [[.slice p.1 x.nodes.length p.2, .int .i64 x.root]]) (l.take (i + 1))) (fun S S' w h h' hd => by rw [htk]; exact hTR_snoc h h' hd) h1
      exact St.inc IncA h2
    · have hck : decide ((i : Int) < (l.length : Int)) = false := by simp; omega
      obtain rfl : i = l.length := by omega
      rw [List.take_of_length_le (Nat.le_refl _)]
      refine TC.sub (M' := St w [hTrees (.slice A l.length c) l, blk b0 (n.cells kv) 34]) (fun w hw => St.joinX (fun S S' w h h' hd => hTrees_join h h' hd) hw) ?_
      repeat' (first | (refine W1 ?_) | (refine W2 (fun hc => ?_) (fun hc => ?_)) | (intro _))
      refine TC.loopA (ι := Nat) 0 (fun k r => (9, .int .i64 k) :: r) (fun _ => St w [hTrees (.slice A l.length c) l, blk b0 (n.cells kv) 34]) (fun k => k ≤ 2) (fun k => 2 - k) KpA SubA (fun w' hw => hw) (by omega) ?_
      intro k hk
      by_cases hk2 : k < 2
      · have hck2 : decide ((k : Int) < 2) = true := by simp; omega
        have hxw := ofP_wf hwn hw1 hto
        have q1 : (!((ofP n l).2 == (ofP n l).2)) = false := by simp
        have q2 : (!decide ((ofP n l).1 = (ofP n l).1)) = false := by simp
        repeat' (first | (refine W1 ?_) | (refine W2 (fun hc => ?_) (fun hc => ?_)) | (intro _))
        refine T.callR rfl rfl (fun w' hw' => of_any n _ _ l w' hwn (St.getTrees hw' AtA) hlN hw1 hto (Tab.st hT hw')) (fun p1 _ => ?_)
        repeat' (first | (refine W1 ?_) | (refine W2 (fun hc => ?_) (fun hc => ?_)) | (intro _))
        refine T.callR rfl rfl (fun w' hw' => rof_any n _ _ l w' hwn (St.old_trees hw' h1) hlN hw1 hto hkl) (fun p2 _ => ?_)
        repeat' (first | (refine W1 ?_) | (refine W2 (fun hc => ?_) (fun hc => ?_)) | (intro _) | (apply T.callV (f := 22); (exact rfl); (exact rfl); (intro w' hw'; apply exact_any; (first | exact St.old_tree hw' (by assumption) | exact St.get_treeN hw' AtA); (first | exact St.old_tree hw' (by assumption) | exact St.get_treeN hw' AtA); (assumption); (assumption))) | (apply TL.kcallV (f := 22); (exact rfl); (intro w' hw'; apply exact_any; (first | exact St.old_tree hw' (by assumption) | exact St.get_treeN hw' AtA); (first | exact St.old_tree hw' (by assumption) | exact St.get_treeN hw' AtA); (assumption); (assumption)); (exact rfl); (exact rfl); (exact DropA)))
        refine T.callM (val := fun _ : Unit => .tuple #[]) rfl rfl (fun w' hw' => spoil_any p1.1 p1.2 (ofP n l).1.nodes (ofP n l).1.root w' hxw.len (fun m hm => (hxw.nodes m hm).kids.1) (St.del DelA hw')) (fun _ => ?_)
        repeat' (first | (refine W1 ?_) | (refine W2 (fun hc => ?_) (fun hc => ?_)) | (intro _))
        exact TX.round (k + 1) (by omega) (by omega) SubA (fun w' hw => St.inc IncA hw)
      · have hck2 : decide ((k : Int) < 2) = false := by simp; omega
        have q3 : decide (l = l) = true := by simp
        repeat' (first | (refine W1 ?_) | (refine W2 (fun hc => ?_) (fun hc => ?_)) | (intro _))
        refine T.callV rfl rfl (fun w' hw' => all_any _ _ l l w' (St.getTrees hw' AtA) (St.old_trees hw' h1) hlN hlN hw1 hw1) ?_
        repeat' (first | (refine W1 ?_) | (refine W2 (fun hc => ?_) (fun hc => ?_)) | (intro _) | (apply T.callV (f := 16); (exact rfl); (exact rfl); (intro w' hw'; apply works_any; (exact Tab.st hT hw'))) | (apply TL.kcallV (f := 16); (exact rfl); (intro w' hw'; apply works_any; (exact Tab.st hT hw')); (exact rfl); (exact rfl); (exact DropA)))
        exact TX.ret_tmp rfl rfl (fun w' hw => RetV.eq hw rfl)
end Go.Proofs.YtlhkkngpppcfoaaDoor
