/-
  bonsairef04.Kids, walked.
-/
import Derived.Test.YtlhkkngpppcfoaaDoorRefOf
import Derived.Test.YtlhkkngpppcfoaaDoorBackP
set_option linter.all false
namespace Go.Bonsai
open Go Go.Sl
theorem foOf_trees {ns : List Nod} (h : ChOk (chOf ns)) : ∀ (f : Nat) (l : List Int), (∀ k ∈ l, 0 ≤ k ∧ k < f) → f ≤ ns.length → (foOf ns f l).trees = l.map fun k => treT (foOf ns ns.length [k])
  | 0, [], _, _ => by rw [foOf_nil]; rfl
  | 0, k :: l, hk, _ => by have := hk k (by simp); omega
  | f + 1, [], _, _ => by rw [foOf_nil]; rfl
  | f + 1, k :: l, hk, hf => by
    have h0 := hk k (by simp)
    have ih := foOf_trees h (f + 1) l (fun x hx => hk x (by simp [hx])) hf
    rw [foOf_cons, Fo.trees, ih, List.map_cons]
    congr 1
    rw [foOf_fuel h ns.length (f + 1) [k] (by intro x hx; simp at hx; subst hx; omega) (by intro x hx; simp at hx; subst hx; omega), foOf_cons, foOf_nil]
theorem kidsP_map {t : Tre} (hri : rightP t = true) {r : Nat} {n : Nod} (hr : t.root = r) (hn : t.nodes[r]? = some n) : kidsP t = n.kids.map (fun k => takenP t k) := by
  have h := rightP_spec hri
  have hlt := (List.getElem?_eq_some_iff.1 hn).1
  obtain ⟨f, hf⟩ : ∃ f, t.nodes.length = f + 1 := ⟨t.nodes.length - 1, by omega⟩
  have hch : chOf t.nodes (r : Int) = n.kids := (chOf_get hn).symm
  have hk : ∀ k ∈ n.kids, 0 ≤ k ∧ k < (r : Int) := fun k hk => h.kok r n hn k hk
  unfold kidsP
  rw [if_pos hri]
  unfold foT
  rw [hf, foOf_cons, hr, hch, foOf_nil]
  show (foOf t.nodes f n.kids).trees = _
  rw [foOf_trees h.kok.chOf f n.kids (fun k hk' => by have := hk k hk'; omega) (by omega)]
  apply List.map_congr_left
  intro k hk'
  have := hk k hk'
  rw [takenP_fo h this.1 (by omega)]
end Go.Bonsai
namespace Go.Proofs.YtlhkkngpppcfoaaDoor
open Go Go.Sl Go.RowKit Go.Bonsai
set_option linter.unusedVariables false
set_option linter.unusedSimpArgs false

theorem rkids_any (v : Value) (t : Tre) (w : World) (hr : RTree (Old w) w v t) (ht : t.wf) (hkt : (allKids t.nodes).length ≤ bigL) :
    Calls Tryd.prog 52 #[v] w (RetTs w (kidsP t)) := by
  have hr0 := hr
  obtain ⟨nv, rfl, A, c, rows0, rfl, hA, hrows, hc⟩ := hr
  refine TC.calls (l := [.agg #[.slice A t.nodes.length c, .int .i64 t.root]]) Tryd.func52 rfl Tryd.ntmps52 rfl (St.start w) ?_
  cases hri : rightP t with
  | false =>
    have hrin : (!rightP t) = true := by rw [hri]; rfl
    have hk0 : kidsP t = [] := by rw [kidsP, if_neg (by rw [hri]; simp)]
    rw [hk0]
    repeat' (first | (refine T.callV rfl rfl (fun w' hw' => rright_any _ t w' (St.old_tree hw' hr0) ht hkt) ?_) | (refine W1 ?_) | (refine W2 (fun hc => ?_) (fun hc => ?_)) | (intro _))
    refine TX.ret_tmp rfl rfl (fun w' hw => ?_)
    have h1 := St.push (H := hTrees (.slice none 0 0) []) hw Chg.refl hTrees_nil
    exact Ret.mk ((none : Option Addr), 0) trivial (.cons .here .nil) h1
  | true =>
    have hrin : (!rightP t) = false := by rw [hri]; rfl
    have hR := rightP_spec hri
    have h0 := hR.root
    have hlen := ht.len
    unfold bigN at hlen
    obtain ⟨r, hrt⟩ : ∃ r : Nat, t.root = r := ⟨t.root.toNat, by omega⟩
    have hrl : r < t.nodes.length := by omega
    have hns := List.getElem?_eq_getElem hrl
    obtain ⟨cs, hcs, kv, rfl, K, kc, rfl, hK, hkc⟩ := hrows.get hns
    have hwn := ht.nodes _ (List.getElem_mem hrl)
    have hkm := kidsP_map hri hrt hns
    have hkb := hR.kok r _ hns
    generalize t.nodes[r] = n at *
    have hkl := hwn.kids.1
    unfold bigL at hkl
    have hA' : A = some (A.getD default) := hA.some_ (by omega)
    have hr1 := hr0
    rw [hrt] at hr1
    rw [hkm, hrt]
    have hkn : (n.kids.map (fun k => takenP t k)).length = n.kids.length := by simp
    have hkN : n.kids.length ≤ 1466015503701 := by
      have := (kidsP_tot t).2
      rw [hkm, hkn] at this
      omega
    repeat' (first | (refine T.callV rfl rfl (fun w' hw' => rright_any _ t w' (St.old_tree hw' hr1) ht hkt) ?_) | (refine W1 ?_) | (refine W2 (fun hc => ?_) (fun hc => ?_)) | (intro _))
    rename_i b1
    refine TC.loopA (ι := (Option Addr × Nat) × Nat × List (List Value)) ((none, 0), 0, []) (fun k r => (3, .slice k.1.1 k.2.1 k.1.2) :: (5, .int .i64 k.2.1) :: r)
      (fun k => St w [own 24 2 k.1.1 k.2.1 k.1.2 k.2.2, hTR k.2.2 ((n.kids.take k.2.1).map (fun k => takenP t k)), blk b1 [.slice A t.nodes.length c, .int .i64 (r : Int)] 24])
      (fun k => k.2.1 ≤ n.kids.length) (fun k => n.kids.length - k.2.1) KpA SubA (fun w' hw => St.inc IncA (St.own_nil (e := 24) (sz := 2) (St.trs_nil hw))) (Nat.zero_le _) ?_
    rintro ⟨⟨A1, c1⟩, i, rows⟩ hi
    simp only at hi ⊢
    by_cases hlt : i < n.kids.length
    · have hck : decide ((i : Int) < (n.kids.length : Int)) = true := by simp [hlt]
      have hki : n.kids[i]? = some n.kids[i] := List.getElem?_eq_getElem hlt
      have htk : n.kids.take (i + 1) = n.kids.take i ++ [n.kids[i]] := List.take_succ_eq_append_getElem hlt
      have hkb := hkb _ (List.getElem_mem hlt)
      generalize n.kids[i] = z at *
      have hKs : K = some (K.getD default) := hK.some_ (by omega)
      have hsub := subP_yes hri hkb.1 (by omega)
      repeat' (first | (refine TC.holdR 8 ?_) | (refine W1 ?_) | (refine W2 (fun hc => ?_) (fun hc => ?_)) | (intro _))
      refine ⟨TC.cutA (ι := Nat × (Option Addr × Nat)) (fun k r => (6, .pointer (some ⟨k.1, 0, none⟩)) :: (7, .bool true) :: r) (fun k => St w [blk k.1 [.slice k.2.1 (takenP t z).nodes.length k.2.2, .int .i64 (takenP t z).root] 24, hNodes (.slice k.2.1 (takenP t z).nodes.length k.2.2) (takenP t z).nodes, own 24 2 A1 i c1 rows, hTR rows ((n.kids.take i).map (fun k => takenP t k)), blk b1 [.slice A t.nodes.length c, .int .i64 (r : Int)] 24]) KpA
        (TC.lexT [] (.seg [0, 1, 2, 3, 4] (.both (.seg [5, 6, 7, 8, 9, 10, 11] .fin) (.seg [9, 5, 6, 7, 8, 10, 11] .fin))) mixed (by kernel_rfl) (TT.seg rfl ?_)) (fun k => ?_)⟩
      · repeat' (first | (apply TX.tree) | (apply TT.both) | ((apply TT.seg; exact rfl)) | (refine W1l ?_) | (refine W2 (fun hc => ?_) (fun hc => ?_)) | (intro _))
        all_goals refine TL.kcallR rfl (fun w' hw' => by have h := rsub_any _ t z w' (St.old_tree hw' hr1) ht hkt; rw [hsub] at h; exact h) rfl rfl DropA (fun p _ => ?_)
        repeat' (first | (apply TX.tree) | (apply TT.fin) | (refine W1l ?_) | (refine W2 (fun hc => ?_) (fun hc => ?_)) | (intro _))
        all_goals (apply TX.join (_, _); exact SubA; exact fun w' hw => St.inc IncA hw)
      obtain ⟨b6, p⟩ := k
      dsimp only
      repeat' (first | (refine W1 ?_) | (refine W2 (fun hc => ?_) (fun hc => ?_)) | (intro _))
      refine T.append (rows := rows) (news := [[.slice p.1 (takenP t z).nodes.length p.2, .int .i64 (takenP t z).root]]) rfl rfl rfl DelA (fun w hw => St.own_arr hw AtA) (fun _ _ r hr => by simp at hr; subst hr; rfl) (by unfold maxLen; omega) (by omega) (fun A7 c7 => ?_)
      repeat' (first | (refine W1 ?_) | (refine W2 (fun hc => ?_) (fun hc => ?_)) | (intro _))
      refine TX.round ((A7, c7), i + 1, rows ++ [[.slice p.1 (takenP t z).nodes.length p.2, .int .i64 (takenP t z).root]]) hlt (show n.kids.length - (i + 1) < n.kids.length - i by omega) SubA (fun w' hw => ?_)
      have h0 := St.del (H := hTR rows ((n.kids.take i).map (fun k => takenP t k))) DelA hw
      have h1 := St.del (H := hNodes (.slice p.1 (takenP t z).nodes.length p.2) (takenP t z).nodes) DelA h0
      have h2 := St.joinX (K := hTR (rows ++ [[.slice p.1 (takenP t z).nodes.length p.2, .int .i64 (takenP t z).root]]) ((n.kids.take (i + 1)).map (fun k => takenP t k))) (fun S S' w h h' hd => by rw [htk, List.map_append]; exact hTR_snoc h h' hd) h1
      exact St.inc IncA h2
    · have hck : decide ((i : Int) < (n.kids.length : Int)) = false := by simp; omega
      obtain rfl : i = n.kids.length := by omega
      rw [List.take_of_length_le (Nat.le_refl _)]
      repeat' (first | (refine W1 ?_) | (refine W2 (fun hc => ?_) (fun hc => ?_)) | (intro _))
      refine TX.ret_tmp rfl rfl (fun w' hw => ?_)
      have h0 := St.del (H := hTR rows (n.kids.map (fun k => takenP t k))) DelA hw
      have h1 := St.del (H := own 24 2 A1 n.kids.length c1 rows) DelA h0
      rw [← hkn] at h1 ⊢
      have h2 := St.joinX (K := hTrees (.slice A1 (n.kids.map (fun k => takenP t k)).length c1) (n.kids.map (fun k => takenP t k))) (fun S S' w h h' hd => hTrees_join h h' hd) h1
      exact Ret.mk (A1, c1) trivial (.cons .here .nil) h2
end Go.Proofs.YtlhkkngpppcfoaaDoor
