/-
  tree.Clean, the plain facts on clean arenas, and the reference's Exact: are two trees the same, node by node and root?
-/
import Derived.Test.YtlhkkngpppcfoaaDoorHelp
import Derived.Test.YtlhkkngpppcfoaaDoorBranch
set_option linter.all false
namespace Go.Bonsai
open Go Go.Sl Go.RowKit
theorem Tre.eq_iff {a b : Tre} : a = b ↔ a.nodes = b.nodes ∧ a.root = b.root := by
  cases a; cases b; simp
theorem cleanP_yes {t : Tre} (h : rightP t = true) : cleanP t = takenP t t.root := by unfold cleanP; rw [if_pos h]
theorem cleanP_no {t : Tre} (h : rightP t = false) : cleanP t = .zero := by unfold cleanP; rw [if_neg (by rw [h]; simp)]
theorem cleanP_treT {t : Tre} (h : rightP t = true) : cleanP t = treT (foT t) := by rw [cleanP_yes h, cleanP_fo (rightP_spec h)]
theorem right_clean (t : Tre) : rightP (cleanP t) = rightP t := by
  cases h : rightP t with
  | false => rw [cleanP_no h]; rfl
  | true => rw [cleanP_treT h]; exact rightP_iff.2 (foT_clean (rightP_spec h)).1
theorem clean_clean (t : Tre) : cleanP (cleanP t) = cleanP t := by
  cases h : rightP t with
  | false => rw [cleanP_no h]; rfl
  | true =>
    have h1 := foT_clean (rightP_spec h)
    rw [cleanP_treT h, cleanP_treT (rightP_iff.2 h1.1), h1.2]
theorem same_clean {t : Tre} (h : rightP t = true) : sameP t (cleanP t) = true := by
  have h1 := foT_clean (rightP_spec h)
  rw [cleanP_treT h]
  exact sameP_fo.2 ⟨rightP_spec h, h1.1, h1.2.symm⟩
theorem same_exact (a b : Tre) : sameP a b = (rightP a && rightP b && decide (cleanP a = cleanP b)) := by
  rw [Bool.eq_iff_iff, sameP_fo]
  simp only [Bool.and_eq_true, decide_eq_true_eq]
  constructor
  · rintro ⟨h1, h2, h3⟩
    refine ⟨⟨rightP_iff.2 h1, rightP_iff.2 h2⟩, ?_⟩
    rw [cleanP_treT (rightP_iff.2 h1), cleanP_treT (rightP_iff.2 h2), h3]
  · rintro ⟨⟨h1, h2⟩, h3⟩
    refine ⟨rightP_spec h1, rightP_spec h2, ?_⟩
    rw [cleanP_treT h1, cleanP_treT h2] at h3
    obtain ⟨n, k, e, hb, hf⟩ := foT_one (rightP_spec h1)
    obtain ⟨m, j, e', hb', hf'⟩ := foT_one (rightP_spec h2)
    rw [e, e'] at h3 ⊢
    exact treT_inj hb hb' h3
theorem same_comm (a b : Tre) : sameP b a = sameP a b := by
  rw [Bool.eq_iff_iff, sameP_fo, sameP_fo]
  exact ⟨fun ⟨h1, h2, h3⟩ => ⟨h2, h1, h3.symm⟩, fun ⟨h1, h2, h3⟩ => ⟨h2, h1, h3.symm⟩⟩
theorem same_self (a : Tre) : sameP a a = rightP a := by
  rw [Bool.eq_iff_iff, sameP_fo, rightP_iff]
  exact ⟨fun h => h.1, fun h => ⟨h, h, rfl⟩⟩
theorem same_trans {a b c : Tre} (h1 : sameP a b = true) (h2 : sameP b c = true) : sameP a c = true := by
  rw [sameP_fo] at *
  exact ⟨h1.1, h2.2.1, h1.2.2.trans h2.2.2⟩
theorem cleanP_wf {t : Tre} (h : t.wf) : (cleanP t).wf := by
  cases hr : rightP t with
  | false => rw [cleanP_no hr]; exact ⟨by simp [Tre.zero], by simp [Tre.zero], by simp [Tre.zero, I64]⟩
  | true =>
    have hR := rightP_spec hr
    rw [cleanP_yes hr]; exact (takenP_wf h hR hR.root.1 hR.root.2).1
end Go.Bonsai
namespace Go.Proofs.YtlhkkngpppcfoaaDoor
open Go Go.Sl Go.RowKit Go.Bonsai
set_option linter.unusedVariables false
set_option linter.unusedSimpArgs false

theorem Ev.bts_neq {n : FD} {s : Sg} {M : World → Prop} {ty u : TypeId} {x y : Operand} {a b : Bts} (hx : ev s x = some (.agg a.vals.toArray)) (hy : ev s y = some (.agg b.vals.toArray)) :
    Ev Tryd.prog n s M (.binOp .neq 32 x y u) ty (.bool (!decide (a = b))) := by
  refine ⟨fun ac w o ho ht hf hm => ?_⟩
  have hg : Tryd.prog.eqGuardType Tryd.prog.depth 32 = false := by kernel_rfl
  have h := bts_eq a.a a.b a.c a.d b.a b.b b.c b.d w
  simp only [execOp, ho, hf.ev hx, hf.ev hy, Bts.vals]
  obtain ⟨a0, a1, a2, a3⟩ := a
  obtain ⟨b0, b1, b2, b3⟩ := b
  simp [run_eqGuard_agg w _ _ _ _ _ _ hg, run_neq_struct, h]

theorem clean_any (v : Value) (t : Tre) (w : World) (hr : RTree (Old w) w v t) (ht : t.wf) (hT : Tab w) : Calls Tryd.prog 33 #[v] w (RetT w (cleanP t)) := by
  have hr0 := hr
  obtain ⟨nv, rfl, A, c, rows0, rfl, hA, hrows, hc⟩ := hr
  refine TC.calls (l := [.agg #[.slice A t.nodes.length c, .int .i64 t.root]]) Tryd.func33 rfl Tryd.ntmps33 rfl (St.start w) ?_
  cases hri : rightP t with
  | false =>
    have hrin : (!rightP t) = true := by rw [hri]; rfl
    rw [cleanP_no hri]
    repeat' (first | (refine T.callV rfl rfl (fun w' hw' => right_any _ t w' (St.old_tree hw' hr0) ht (Tab.st hT hw')) ?_) | (refine W1 ?_) | (refine W2 (fun hc => ?_) (fun hc => ?_)) | (intro _))
    rename_i b0 b1
    refine TX.ret_gen (rs := [.cell 2 24]) (vs := [.agg #[.slice none 0 0, .int .i64 0]]) rfl (.cell rfl (blk_res (cs := [.slice none 0 0, .int .i64 0]) AtA rfl) .nil) (fun w' hw => ?_)
    have h1 := St.push (H := hNodes (.slice none 0 0) []) hw Chg.refl hNodes_nil
    exact Ret.mk ((none : Option Addr), 0) trivial (.cons .here .nil) h1
  | true =>
    have hrin : (!rightP t) = false := by rw [hri]; rfl
    have hR := rightP_spec hri
    rw [cleanP_yes hri]
    repeat' (first | (refine T.callV rfl rfl (fun w' hw' => right_any _ t w' (St.old_tree hw' hr0) ht (Tab.st hT hw')) ?_) | (refine W1 ?_) | (refine W2 (fun hc => ?_) (fun hc => ?_)) | (intro _))
    refine T.callR rfl rfl (fun w' hw' => taken_any _ t t.root w' (St.old_tree hw' hr0) ht hR hR.root.1 hR.root.2) (fun p1 _ => ?_)
    repeat' (first | (refine W1 ?_) | (refine W2 (fun hc => ?_) (fun hc => ?_)) | (intro _))
    refine TX.ret_gen (rs := [.cell 2 24]) (vs := [.agg #[.slice p1.1 (takenP t t.root).nodes.length p1.2, .int .i64 (takenP t t.root).root]]) rfl (.cell rfl (blk_res (cs := [.slice p1.1 (takenP t t.root).nodes.length p1.2, .int .i64 (takenP t t.root).root]) AtA rfl) .nil) (fun w' hw => ?_)
    exact Ret.mk p1 trivial IncA hw

set_option maxHeartbeats 1000000 in
theorem exact_any (v u : Value) (a b : Tre) (w : World) (hra : RTree (Old w) w v a) (hrb : RTree (Old w) w u b) (hwa : a.wf) (hwb : b.wf) :
    Calls Tryd.prog 22 #[v, u] w (RetV w (.bool (decide (a = b)))) := by
  obtain ⟨nv, rfl, A, c, rows, rfl, hA, hrows, hc⟩ := hra
  obtain ⟨nv, rfl, B, d, rows', rfl, hB, hrows', hd⟩ := hrb
  have hla := hwa.len
  have hlb := hwb.len
  unfold bigN at hla hlb
  refine TC.calls (l := [.agg #[.slice A a.nodes.length c, .int .i64 a.root], .agg #[.slice B b.nodes.length d, .int .i64 b.root]]) Tryd.func22 rfl Tryd.ntmps22 rfl (St.start w) ?_
  by_cases hlen : a.nodes.length = b.nodes.length
  case neg =>
    have hc1 : (!decide ((a.nodes.length : Int) = (b.nodes.length : Int))) = true := by simp; omega
    repeat' (first | (refine W1 ?_) | (refine W2 (fun hc => ?_) (fun hc => ?_)) | (intro _))
    refine TX.ret_tmp rfl rfl (fun w' hw => RetV.eq hw ?_)
    have : a ≠ b := fun e => hlen (by rw [e])
    simp [this]
  have hc1 : (!decide ((a.nodes.length : Int) = (b.nodes.length : Int))) = false := by simp [hlen]
  by_cases hroot : a.root = b.root
  case neg =>
    have hc2 : (!decide (a.root = b.root)) = true := by simp [hroot]
    repeat' (first | (refine W1 ?_) | (refine W2 (fun hc => ?_) (fun hc => ?_)) | (intro _))
    refine TX.ret_tmp rfl rfl (fun w' hw => RetV.eq hw ?_)
    have : a ≠ b := fun e => hroot (by rw [e])
    simp [this]
  have hc2 : (!decide (a.root = b.root)) = false := by simp [hroot]
  repeat' (first | (refine W1 ?_) | (refine W2 (fun hc => ?_) (fun hc => ?_)) | (intro _))
  rename_i b0 b1
  refine TC.loopA (ι := Nat) 0 (fun k r => (5, .int .i64 k) :: r) (fun _ => St w [blk b1 [.slice B b.nodes.length d, .int .i64 b.root] 24, blk b0 [.slice A a.nodes.length c, .int .i64 a.root] 24]) (fun k => k ≤ a.nodes.length ∧ a.nodes.take k = b.nodes.take k) (fun k => a.nodes.length - k) KpA SubA (fun _ h => St.inc IncA h) ⟨Nat.zero_le _, rfl⟩ ?_
  rintro k ⟨hk, he⟩
  by_cases hlt : k < a.nodes.length
  case neg =>
    have hck : decide ((k : Int) < (a.nodes.length : Int)) = false := by simp; omega
    repeat' (first | (refine W1 ?_) | (refine W2 (fun hc => ?_) (fun hc => ?_)) | (intro _))
    refine TX.ret_tmp rfl rfl (fun w' hw => RetV.eq hw ?_)
    rw [List.take_of_length_le (l := a.nodes) (by omega), List.take_of_length_le (l := b.nodes) (by omega)] at he
    simp [Tre.eq_iff, he, hroot]
  have hck : decide ((k : Int) < (a.nodes.length : Int)) = true := by simp [hlt]
  obtain ⟨cs, hcs, kv, rfl, K, kc, rfl, hK, hkc⟩ := hrows.get (List.getElem?_eq_getElem hlt)
  obtain ⟨cs', hcs', kv', rfl, K', kc', rfl, hK', hkc'⟩ := hrows'.get (List.getElem?_eq_getElem (show k < b.nodes.length by omega))
  have hw1 := hwa.nodes _ (List.getElem_mem hlt)
  have hw2 := hwb.nodes _ (List.getElem_mem (show k < b.nodes.length by omega))
  have ht1 := List.take_succ_eq_append_getElem hlt
  have ht2 := List.take_succ_eq_append_getElem (show k < b.nodes.length by omega)
  have hne : a.nodes[k] ≠ b.nodes[k] → a ≠ b := fun h e => h (by simp [e])
  generalize a.nodes[k] = n at *
  generalize b.nodes[k] = m at *
  have hA' : A = some (A.getD default) := hA.some_ (by omega)
  have hB' : B = some (B.getD default) := hB.some_ (by omega)
  have hkl1 := hw1.kids.1
  have hkl2 := hw2.kids.1
  unfold bigL at hkl1 hkl2
  repeat' (first | (refine TC.holdR 6 ?_) | (refine W1 ?_) | (refine W2 (fun hc => ?_) (fun hc => ?_)) | (intro _))
  refine ⟨TC.cutA (ι := Nat × Nat) (fun k r => (6, .pointer (some ⟨k.1, 0, none⟩)) :: (7, .pointer (some ⟨k.2, 0, none⟩)) :: r) (fun k => St w [blk k.1 (n.cells (.slice K n.kids.length kc)) 34, blk k.2 (m.cells (.slice K' m.kids.length kc')) 34, blk b1 [.slice B b.nodes.length d, .int .i64 b.root] 24, blk b0 [.slice A a.nodes.length c, .int .i64 a.root] 24]) KpA
    (TC.lexT [(12, .keep), (13, .keep)] (.seg [0, 1, 2, 3, 4, 5, 6, 7, 8, 9] (.both (.seg [10, 11, 12, 13] .fin) (.seg [11, 10, 12, 13] .fin))) mixed (by kernel_rfl) (TT.seg rfl ?_)) (fun x => ?_)⟩
  · repeat' (first | (apply TL.keepN; (exact rfl); (exact DropA); (apply Ac.store; (exact rfl); (exact rfl); (exact rfl); (exact rfl); (exact rfl); (exact UpdA); (exact rfl)); (exact Drop2A); (intro _)) | (apply TX.tree) | (apply TT.both) | ((apply TT.seg; exact rfl)) | (apply TT.fin) | (refine W1l ?_) | (refine W2 (fun hc => ?_) (fun hc => ?_)) | (intro _))
    all_goals (apply TX.join (_, _); exact SubA; exact fun w' hw => St.inc IncA hw)
  obtain ⟨bn, bm⟩ := x
  repeat' (first | (apply T.ev_; exact rfl; apply Ev.bts_neq (a := n.set) (b := m.set); exact rfl; exact rfl) | (refine W1 ?_) | (refine W2 (fun hc => ?_) (fun hc => ?_)) | (intro _))
  all_goals try (refine TX.ret_tmp rfl rfl (fun w' hw => RetV.eq hw ?_); have : n ≠ m := (by rintro rfl; simp at hc); simp [hne this])
  have hk6 := hc
  rename_i hk1 hk2 hk3 hk4 hk5
  simp only [Bool.not_eq_false', decide_eq_true_eq, Int.natCast_inj] at hk1 hk2 hk3 hk4 hk5 hk6
  refine TC.loopA (ι := Nat) 0 (fun j r => (8, .int .i64 j) :: r) (fun _ => St w [blk bn (n.cells (.slice K n.kids.length kc)) 34, blk bm (m.cells (.slice K' m.kids.length kc')) 34, blk b1 [.slice B b.nodes.length d, .int .i64 b.root] 24, blk b0 [.slice A a.nodes.length c, .int .i64 a.root] 24])
    (fun j => j ≤ n.kids.length ∧ n.kids.take j = m.kids.take j) (fun j => n.kids.length - j) KpA SubA (fun _ h => St.inc IncA h) ⟨Nat.zero_le _, rfl⟩ ?_
  rintro j ⟨hj, hej⟩
  by_cases hjl : j < n.kids.length
  · have hcj : decide ((j : Int) < (n.kids.length : Int)) = true := by simp [hjl]
    have hg1 : n.kids[j]? = some n.kids[j] := List.getElem?_eq_getElem hjl
    have hg2 : m.kids[j]? = some m.kids[j] := List.getElem?_eq_getElem (by omega)
    have hs1 := List.take_succ_eq_append_getElem hjl
    have hs2 := List.take_succ_eq_append_getElem (show j < m.kids.length by omega)
    have hnk : n.kids[j] ≠ m.kids[j] → n ≠ m := fun h e => h (by subst e; rfl)
    generalize n.kids[j] = y at *
    generalize m.kids[j] = z at *
    have hKs : K = some (K.getD default) := hK.some_ (by omega)
    have hKs' : K' = some (K'.getD default) := hK'.some_ (by omega)
    repeat' (first | (refine W1 ?_) | (refine W2 (fun hc => ?_) (fun hc => ?_)) | (intro _))
    · refine TX.ret_tmp rfl rfl (fun w' hw => RetV.eq hw ?_)
      have : n ≠ m := hnk (by simpa using hc)
      simp [hne this]
    · refine TX.round (j + 1) ⟨hjl, ?_⟩ (by omega) SubA (fun w' hw => St.inc IncA hw)
      simp at hc
      rw [hs1, hs2, hej, hc]
  · have hcj : decide ((j : Int) < (n.kids.length : Int)) = false := by simp; omega
    rw [List.take_of_length_le (l := n.kids) (by omega), List.take_of_length_le (l := m.kids) (by omega)] at hej
    repeat' (first | (refine W1 ?_) | (refine W2 (fun hc => ?_) (fun hc => ?_)) | (intro _))
    refine TX.round (k + 1) ⟨hlt, ?_⟩ (by omega) SubA (fun w' hw => St.inc IncA hw)
    rw [ht1, ht2, he, Nod.eq_iff.2 ⟨hk1, hk2, hk3, hk4, hk5, hej⟩]
end Go.Proofs.YtlhkkngpppcfoaaDoor
