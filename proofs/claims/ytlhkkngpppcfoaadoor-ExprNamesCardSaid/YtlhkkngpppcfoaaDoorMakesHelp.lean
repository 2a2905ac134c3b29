/-
  bonsairef04.Leaf, and the law's own helpers own, all: walked.
-/
import Derived.Test.YtlhkkngpppcfoaaDoorSpoil
import Derived.Test.YtlhkkngpppcfoaaDoorExact
import Derived.Test.YtlhkkngpppcfoaaDoorHelp
set_option linter.all false
namespace Go.Proofs.YtlhkkngpppcfoaaDoor
open Go Go.Sl Go.RowKit Go.Bonsai
set_option linter.unusedVariables false
set_option linter.unusedSimpArgs false

theorem rleaf_any (n : Nod) (w : World) (hk : n.kids = []) : Calls Tryd.prog 24 #[.agg (n.cells (.slice none 0 0)).toArray] w (RetT w ⟨[n], 0⟩) := by
  refine TC.calls (l := [.agg (n.cells (.slice none 0 0)).toArray]) Tryd.func24 rfl Tryd.ntmps24 rfl (St.start w) ?_
  repeat' (first | (refine W1 ?_) | (refine W2 (fun hc => ?_) (fun hc => ?_)) | (intro _))
  rename_i b2 b1 B
  refine TX.ret_gen (rs := [.cell 2 24]) (vs := [.agg #[.slice (some ⟨B, 0, none⟩) 1 1, .int .i64 0]]) rfl (.cell rfl (blk_res (cs := [.slice (some ⟨B, 0, none⟩) 1 1, .int .i64 0]) AtA rfl) .nil) (fun w' hw => ?_)
  have h := St.weak (H' := hNodes (.slice (some ⟨B, 0, none⟩) 1 1) [n]) (fun S w h => hNodes_leaf hk h) hw
  exact Ret.mk ((some ⟨B, 0, none⟩ : Option Addr), 1) trivial (.cons .here .nil) h

theorem own_any (v : Value) (t : Tre) (w : World) (hr : RTree (Old w) w v t) (ht : t.wf) : Calls Tryd.prog 28 #[v] w (RetT w t) := by
  have hr0 := hr
  obtain ⟨nv, rfl, A, c, rows0, rfl, hA, hrows, hc⟩ := hr
  have hlen := ht.len
  unfold bigN at hlen
  refine TC.calls (l := [.agg #[.slice A t.nodes.length c, .int .i64 t.root]]) Tryd.func28 rfl Tryd.ntmps28 rfl (St.start w) ?_
  repeat' (first | (refine W1 ?_) | (refine W2 (fun hc => ?_) (fun hc => ?_)) | (intro _))
  rename_i b1 b2 b3
  refine TC.loopA (ι := (Option Addr × Nat) × Nat × List (List Value)) ((none, 0), 0, []) (fun k r => (4, .int .i64 k.2.1) :: r)
    (fun k => St w [blk b3 [.slice k.1.1 k.2.1 k.1.2, .int .i64 t.root] 24, own 34 9 k.1.1 k.2.1 k.1.2 k.2.2, hRows k.2.2 (t.nodes.take k.2.1), blk b2 [.slice none 0 0, .int .i64 0] 24, blk b1 [.slice A t.nodes.length c, .int .i64 t.root] 24])
    (fun k => k.2.1 ≤ t.nodes.length) (fun k => t.nodes.length - k.2.1) KpA SubA (fun w' hw => St.inc IncA (St.own_nil (e := 34) (sz := 9) (St.rows_nil hw))) (Nat.zero_le _) ?_
  rintro ⟨⟨A1, c1⟩, i, rows⟩ hi
  simp only at hi ⊢
  by_cases hlt : i < t.nodes.length
  · have hck : decide ((i : Int) < (t.nodes.length : Int)) = true := by simp [hlt]
    have hns : t.nodes[i]? = some t.nodes[i] := List.getElem?_eq_getElem hlt
    obtain ⟨cs, hcs, kv, rfl, K, kc, rfl, hK, hkc⟩ := hrows.get hns
    have hwf := ht.nodes _ (List.getElem_mem hlt)
    have htk : t.nodes.take (i + 1) = t.nodes.take i ++ [t.nodes[i]] := List.take_succ_eq_append_getElem hlt
    generalize t.nodes[i] = n at *
    have hkl := hwf.kids.1
    unfold bigL at hkl
    have hA' : A = some (A.getD default) := hA.some_ (by omega)
    repeat' (first | (refine W1 ?_) | (refine W2 (fun hc => ?_) (fun hc => ?_)) | (intro _))
    rename_i b5
    refine T.lit (xs := []) rfl rfl rfl (by simp) (by simp) rfl rfl (fun B5 => ?_)
    repeat' (first | (refine W1 ?_) | (refine W2 (fun hc => ?_) (fun hc => ?_)) | (intro _))
    refine T.append (rows := []) (news := irows n.kids) rfl rfl rfl DelA (fun w hw => St.old_arr hw hK) (fun _ _ => irows_oneB _) (by unfold maxLen; omega) (by omega) (fun A6 c6 => ?_)
    simp only [Nat.zero_add, List.nil_append]
    repeat' (first | (refine W1 ?_) | (refine W2 (fun hc => ?_) (fun hc => ?_)) | (intro _))
    refine T.append (rows := rows) (news := [n.cells (.slice A6 n.kids.length c6)]) rfl rfl rfl DelA (fun w hw => St.own_arr hw AtA) (fun _ _ r hr => by simp at hr; subst hr; rfl) (by unfold maxLen; omega) (by omega) (fun A7 c7 => ?_)
    repeat' (first | (refine W1 ?_) | (refine W2 (fun hc => ?_) (fun hc => ?_)) | (intro _))
    refine TX.round ((A7, c7), i + 1, rows ++ [n.cells (.slice A6 n.kids.length c6)]) hlt (show t.nodes.length - (i + 1) < t.nodes.length - i by omega) SubA (fun w' hw => ?_)
    have h0 := St.del (H := hRows rows (t.nodes.take i)) DelA hw
    have h1 := St.del (H := own 3 1 A6 n.kids.length c6 (irows n.kids)) DelA h0
    have h2 := St.joinX (K := hRows (rows ++ [n.cells (.slice A6 n.kids.length c6)]) (t.nodes.take (i + 1))) (fun S S' w h h' hd => by rw [htk]; exact hRows_snoc (n := n) rfl h h' hd) h1
    exact St.inc IncA h2
  · have hck : decide ((i : Int) < (t.nodes.length : Int)) = false := by simp; omega
    obtain rfl : i = t.nodes.length := by omega
    rw [List.take_of_length_le (Nat.le_refl _)]
    repeat' (first | (refine W1 ?_) | (refine W2 (fun hc => ?_) (fun hc => ?_)) | (intro _))
    refine TX.ret_gen (rs := [.cell 2 24]) (vs := [.agg #[.slice A1 t.nodes.length c1, .int .i64 t.root]]) rfl (.cell rfl (blk_res (cs := [.slice A1 t.nodes.length c1, .int .i64 t.root]) AtA rfl) .nil) (fun w' hw => ?_)
    have h0 := St.del (H := hRows rows t.nodes) DelA hw
    have h1 := St.del (H := own 34 9 A1 t.nodes.length c1 rows) DelA h0
    have h2 := St.joinX (K := hNodes (.slice A1 t.nodes.length c1) t.nodes) (fun S S' w h h' hd => hNodes_join h h' hd) h1
    exact Ret.mk (A1, c1) trivial (.cons .here .nil) h2

/-- are they the same, one by one? -/
def allP (l m : List Tre) : Bool := decide (l = m)
theorem all_any (v u : Value) (l m : List Tre) (w : World) (hr : RTrees (Old w) w v l) (hs : RTrees (Old w) w u m) (hl : l.length ≤ bigN) (hm : m.length ≤ bigN) (hwl : ∀ t ∈ l, t.wf) (hwm : ∀ t ∈ m, t.wf) :
    Calls Tryd.prog 32 #[v, u] w (RetV w (.bool (decide (l = m)))) := by
  obtain ⟨A, c, rows, rfl, hA, hrows, hc⟩ := hr
  obtain ⟨B, d, rows', rfl, hB, hrows', hd⟩ := hs
  unfold bigN at hl hm
  refine TC.calls (l := [.slice A l.length c, .slice B m.length d]) Tryd.func32 rfl Tryd.ntmps32 rfl (St.start w) ?_
  by_cases hlm : l.length = m.length
  case neg =>
    have h1 : (!decide ((l.length : Int) = (m.length : Int))) = true := by simp; omega
    repeat' (first | (refine W1 ?_) | (refine W2 (fun hc => ?_) (fun hc => ?_)) | (intro _))
    exact TX.ret_tmp rfl rfl (fun w' hw => RetV.eq hw (by rw [decide_eq_false (fun h => hlm (by rw [h]))]))
  have h1 : (!decide ((l.length : Int) = (m.length : Int))) = false := by simp; omega
  repeat' (first | (refine W1 ?_) | (refine W2 (fun hc => ?_) (fun hc => ?_)) | (intro _))
  refine TC.loopA (ι := Nat) 0 (fun k r => (5, .int .i64 k) :: r) (fun _ => St w []) (fun k => k ≤ l.length ∧ l.take k = m.take k) (fun k => l.length - k) KpA SubA (fun w' hw => hw) ⟨Nat.zero_le _, rfl⟩ ?_
  rintro i ⟨hi, he⟩
  by_cases hlt : i < l.length
  · have hck : decide ((i : Int) < (l.length : Int)) = true := by simp [hlt]
    have hlt' : i < m.length := by omega
    obtain ⟨cs, hcs, hrc⟩ := hrows.get (List.getElem?_eq_getElem hlt)
    obtain ⟨ds, hds, hrd⟩ := hrows'.get (List.getElem?_eq_getElem hlt')
    have hwx := hwl _ (List.getElem_mem hlt)
    have hwy := hwm _ (List.getElem_mem hlt')
    have hA' : A = some (A.getD default) := hA.some_ (by omega)
    have hB' : B = some (B.getD default) := hB.some_ (by omega)
    have hst : l[i] = m[i] → l.take (i + 1) = m.take (i + 1) := fun h => by
      rw [List.take_succ_eq_append_getElem hlt, List.take_succ_eq_append_getElem hlt', he, h]
    have hne : l[i] ≠ m[i] → l ≠ m := fun h e => h (by subst e; rfl)
    generalize l[i] = x at *
    generalize m[i] = y at *
    have hrt := hrc.tree
    have hrs := hrd.tree
    obtain ⟨K, kc, rfl, _⟩ := hrc
    obtain ⟨K', kc', rfl, _⟩ := hrd
    by_cases hxy : x = y
    · have h2 : (!decide (x = y)) = false := by simp [hxy]
      repeat' (first | (refine TL.kcall rfl rfl DropA (Cl.callV rfl (fun w' hw' => exact_any _ _ x y w' (St.old_tree hw' hrt) (St.old_tree hw' hrs) hwx hwy)) (fun _ _ h => h) (fun _ => ?_)) | (refine W1 ?_) | (refine W2 (fun hc => ?_) (fun hc => ?_)) | (intro _))
      exact TX.round (i + 1) ⟨hlt, hst hxy⟩ (by omega) SubA (fun w' hw => hw)
    · have h2 : (!decide (x = y)) = true := by simp [hxy]
      repeat' (first | (refine TL.kcall rfl rfl DropA (Cl.callV rfl (fun w' hw' => exact_any _ _ x y w' (St.old_tree hw' hrt) (St.old_tree hw' hrs) hwx hwy)) (fun _ _ h => h) (fun _ => ?_)) | (refine W1 ?_) | (refine W2 (fun hc => ?_) (fun hc => ?_)) | (intro _))
      exact TX.ret_tmp rfl rfl (fun w' hw => RetV.eq hw (by rw [decide_eq_false (hne hxy)]))
  · have hck : decide ((i : Int) < (l.length : Int)) = false := by simp; omega
    rw [List.take_of_length_le (by omega), List.take_of_length_le (by omega)] at he
    repeat' (first | (refine W1 ?_) | (refine W2 (fun hc => ?_) (fun hc => ?_)) | (intro _))
    exact TX.ret_tmp rfl rfl (fun w' hw => RetV.eq hw (by rw [decide_eq_true he]))
end Go.Proofs.YtlhkkngpppcfoaaDoor
