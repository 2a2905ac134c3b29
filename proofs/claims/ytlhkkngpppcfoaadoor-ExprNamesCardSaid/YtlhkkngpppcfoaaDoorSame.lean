/-
  tree.same, slices.EqualFunc over nodes, tree.Same, tree.May, tree.Depth.
-/
import Derived.Test.YtlhkkngpppcfoaaDoorOps2
set_option linter.all false
namespace Go.Bonsai
theorem Nod.eq_iff {n m : Nod} : n = m ↔ n.kind = m.kind ∧ n.set = m.set ∧ n.text = m.text ∧ n.min = m.min ∧ n.max = m.max ∧ n.kids = m.kids := by
  cases n; cases m; simp
end Go.Bonsai
namespace Go.Proofs.YtlhkkngpppcfoaaDoor
open Go Go.Sl Go.RowKit Go.Bonsai
set_option linter.unusedVariables false
set_option linter.unusedSimpArgs false

theorem same_any (n m : Nod) (A B : Option Addr) (c d : Nat) (w : World) (hA : Arr 1 (Old w) w A n.kids.length (irows n.kids)) (hB : Arr 1 (Old w) w B m.kids.length (irows m.kids)) (hn : n.wf) (hm : m.wf) :
    Calls Tryd.prog 92 #[.agg (n.cells (.slice A n.kids.length c)).toArray, .agg (m.cells (.slice B m.kids.length d)).toArray] w (RetV w (.bool (decide (n = m)))) := by
  refine TC.calls (l := [.agg (n.cells (.slice A n.kids.length c)).toArray, .agg (m.cells (.slice B m.kids.length d)).toArray]) Tryd.func92 rfl Tryd.ntmps92 rfl (St.start w) ?_
  repeat' (first | (apply T.ev_; exact rfl; apply Ev.bts_eql (a := n.set) (b := m.set); exact rfl; exact rfl) | (refine T.callV rfl rfl (fun w' hw' => equal_any A B c d n.kids m.kids w' (St.old_arr hw' hA) (St.old_arr hw' hB) hn.kids.1 hm.kids.1) ?_) | (refine W1 ?_) | (refine W2 (fun hc => ?_) (fun hc => ?_)) | (intro _))
  all_goals refine TX.ret_tmp rfl rfl (fun w' hw => RetV.eq hw ?_)
  all_goals simp_all [Nod.eq_iff]

theorem equalFunc_any (A B : Option Addr) (c d : Nat) (ns ms : List Nod) (w : World) (hn : RNodes (Old w) w (.slice A ns.length c) ns) (hm : RNodes (Old w) w (.slice B ms.length d) ms) (hln : ns.length ≤ bigN) (hlm : ms.length ≤ bigN)
    (hwn : ∀ n ∈ ns, n.wf) (hwm : ∀ n ∈ ms, n.wf) :
    Calls Tryd.prog 91 #[.slice A ns.length c, .slice B ms.length d, .func (.func 92) #[] #[]] w (RetV w (.bool (decide (ns = ms)))) := by
  obtain ⟨A', c', ra, e, hA, hra, _⟩ := hn
  injection e with e1 e2 e3
  subst e1; subst e3
  obtain ⟨B', d', rb, e, hB, hrb, _⟩ := hm
  injection e with e1 e2 e3
  subst e1; subst e3
  unfold bigN at hln hlm
  refine TC.calls (l := [.slice A ns.length c, .slice B ms.length d, .func (.func 92) #[] #[]]) Tryd.func91 rfl Tryd.ntmps91 rfl (St.start w) ?_
  by_cases hlen : ns.length = ms.length
  · have hc1 : (!decide ((ns.length : Int) = (ms.length : Int))) = false := by simp [hlen]
    repeat' (first | (refine W1 ?_) | (refine W2 (fun hc => ?_) (fun hc => ?_)) | (intro _))
    refine TC.loopA (ι := Nat) 0 (fun k r => (17, .int .i64 k) :: r) (fun _ => St w []) (fun k => k ≤ ns.length ∧ ns.take k = ms.take k) (fun k => ns.length - k) KpA SubA (fun _ h => h) ⟨Nat.zero_le _, rfl⟩ ?_
    rintro k ⟨hk, he⟩
    by_cases hlt : k < ns.length
    · have hck : decide ((k : Int) < (ns.length : Int)) = true := by simp [hlt]
      obtain ⟨cs, hcs, kv, rfl, K, kc, rfl, hK, hkc⟩ := hra.get (List.getElem?_eq_getElem hlt)
      obtain ⟨cs', hcs', kv', rfl, K', kc', rfl, hK', hkc'⟩ := hrb.get (List.getElem?_eq_getElem (show k < ms.length by omega))
      have hw1 := hwn _ (List.getElem_mem hlt)
      have hw2 := hwm _ (List.getElem_mem (show k < ms.length by omega))
      have ht1 := List.take_succ_eq_append_getElem hlt
      have ht2 := List.take_succ_eq_append_getElem (show k < ms.length by omega)
      have hne : ns[k] ≠ ms[k] → ns ≠ ms := fun h e => h (by simp [e])
      generalize ns[k] = n at *
      generalize ms[k] = m at *
      have hA' : A = some (A.getD default) := hA.some_ (by omega)
      have hB' : B = some (B.getD default) := hB.some_ (by omega)
      repeat' (first | (refine T.callFV rfl rfl rfl (fun w' hw' => same_any n m K K' kc kc' w' (St.old_arr hw' hK) (St.old_arr hw' hK') hw1 hw2) ?_) | (refine W1 ?_) | (refine W2 (fun hc => ?_) (fun hc => ?_)) | (intro _))
      · refine TX.ret_tmp rfl rfl (fun w' hw => RetV.eq hw ?_)
        simp at hc
        simp [hne hc]
      · refine TX.round (k + 1) ⟨hlt, ?_⟩ (by omega) SubA (fun w' hw => St.inc IncA hw)
        simp at hc
        rw [ht1, ht2, he, hc]
    · have hck : decide ((k : Int) < (ns.length : Int)) = false := by simp; omega
      repeat' (first | (refine W1 ?_) | (refine W2 (fun hc => ?_) (fun hc => ?_)) | (intro _))
      refine TX.ret_tmp rfl rfl (fun w' hw => RetV.eq hw ?_)
      rw [List.take_of_length_le (by omega), List.take_of_length_le (by omega)] at he
      simp [he]
  · have hc1 : (!decide ((ns.length : Int) = (ms.length : Int))) = true := by simp; omega
    repeat' (first | (refine W1 ?_) | (refine W2 (fun hc => ?_) (fun hc => ?_)) | (intro _))
    refine TX.ret_tmp rfl rfl (fun w' hw => RetV.eq hw ?_)
    have : ns ≠ ms := fun e => hlen (by rw [e])
    simp [this]

theorem sameT_any (v u : Value) (a b : Tre) (w : World) (hra : RTree (Old w) w v a) (hrb : RTree (Old w) w u b) (hwa : a.wf) (hwb : b.wf) (hT : Tab w) :
    Calls Tryd.prog 34 #[v, u] w (RetV w (.bool (sameP a b))) := by
  have hra0 := hra
  have hrb0 := hrb
  obtain ⟨nv, rfl, A, c, rows, rfl, hA, hrows, hc⟩ := hra
  obtain ⟨nv, rfl, B, d, rows', rfl, hB, hrows', hd⟩ := hrb
  have hla := hwa.len
  have hlb := hwb.len
  unfold bigN at hla hlb
  refine TC.calls (l := [.agg #[.slice A a.nodes.length c, .int .i64 a.root], .agg #[.slice B b.nodes.length d, .int .i64 b.root]]) Tryd.func34 rfl Tryd.ntmps34 rfl (St.start w) ?_
  by_cases hlen : a.nodes.length = b.nodes.length
  case neg =>
    have hc1 : (!decide ((a.nodes.length : Int) = (b.nodes.length : Int))) = true := by simp; omega
    repeat' (first | (refine W1 ?_) | (refine W2 (fun hc => ?_) (fun hc => ?_)) | (intro _))
    refine TX.ret_tmp rfl rfl (fun w' hw => RetV.eq hw ?_)
    simp [sameP, hlen]
  case pos =>
    have hc1 : (!decide ((a.nodes.length : Int) = (b.nodes.length : Int))) = false := by simp [hlen]
    cases hria : rightP a with
    | false =>
      have hrin : (!rightP a) = true := by rw [hria]; rfl
      repeat' (first | (refine T.callV rfl rfl (fun w' hw' => right_any _ a w' (St.old_tree hw' hra0) hwa (Tab.st hT hw')) ?_) | (refine W1 ?_) | (refine W2 (fun hc => ?_) (fun hc => ?_)) | (intro _))
      refine TX.ret_tmp rfl rfl (fun w' hw => RetV.eq hw ?_)
      simp [sameP, hria]
    | true =>
      have hrin : (!rightP a) = false := by rw [hria]; rfl
      cases hrib : rightP b with
      | false =>
        have hrib' : (!rightP b) = true := by rw [hrib]; rfl
        repeat' (first | (refine T.callV rfl rfl (fun w' hw' => right_any _ a w' (St.old_tree hw' hra0) hwa (Tab.st hT hw')) ?_) | (refine T.callV rfl rfl (fun w' hw' => right_any _ b w' (St.old_tree hw' hrb0) hwb (Tab.st hT hw')) ?_) | (refine W1 ?_) | (refine W2 (fun hc => ?_) (fun hc => ?_)) | (intro _))
        refine TX.ret_tmp rfl rfl (fun w' hw => RetV.eq hw ?_)
        simp [sameP, hrib]
      | true =>
        have hrib' : (!rightP b) = false := by rw [hrib]; rfl
        have hRa := rightP_spec hria
        have hRb := rightP_spec hrib
        have hka := takenP_wf hwa hRa hRa.root.1 hRa.root.2
        have hkb := takenP_wf hwb hRb hRb.root.1 hRb.root.2
        repeat' (first | (refine T.callV rfl rfl (fun w' hw' => right_any _ a w' (St.old_tree hw' hra0) hwa (Tab.st hT hw')) ?_) | (refine T.callV rfl rfl (fun w' hw' => right_any _ b w' (St.old_tree hw' hrb0) hwb (Tab.st hT hw')) ?_) | (refine W1 ?_) | (refine W2 (fun hc => ?_) (fun hc => ?_)) | (intro _))
        refine TL.kcall rfl rfl DropA (Cl.callR rfl (fun w' hw' => taken_any _ a a.root w' (St.old_tree hw' hra0) hwa hRa hRa.root.1 hRa.root.2)) Drop2A (fun p1 => ?_)
        repeat' (first | (refine W1 ?_) | (refine W2 (fun hc => ?_) (fun hc => ?_)) | (intro _))
        refine TL.kcall rfl rfl DropA (Cl.callR rfl (fun w' hw' => taken_any _ b b.root w' (St.old_tree hw' hrb0) hwb hRb hRb.root.1 hRb.root.2)) Drop2A (fun p2 => ?_)
        repeat' (first | (refine W1 ?_) | (refine W2 (fun hc => ?_) (fun hc => ?_)) | (intro _))
        refine TL.kcall rfl rfl DropA (Cl.callV rfl (fun w' hw' => equalFunc_any _ _ _ _ (takenP a a.root).nodes (takenP b b.root).nodes w' (St.get_nodes hw' AtA) (St.get_nodes hw' AtA) hka.1.len hkb.1.len hka.1.nodes hkb.1.nodes)) Drop2A (fun _ => ?_)
        repeat' (first | (refine W1 ?_) | (refine W2 (fun hc => ?_) (fun hc => ?_)) | (intro _))
        refine TX.ret_tmp rfl rfl (fun w' hw => RetV.eq hw ?_)
        simp [sameP, hria, hrib, hlen]
end Go.Proofs.YtlhkkngpppcfoaaDoor
