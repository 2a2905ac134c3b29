/-
  tree.Depth, tree.May, walked.
-/
import Derived.Test.YtalnmednhhimhaaDoorSame
set_option linter.all false
namespace Go.Bonsai
theorem set_atL {α : Type} (D r : List α) (d d' : α) {i : Nat} (h : D.length = i) : (D ++ d :: r).set i d' = D ++ d' :: r := by
  subst h
  rw [List.set_append_right _ _ (Nat.le_refl _), Nat.sub_self, List.set_cons_zero]
theorem get_atL {α : Type} (D r : List α) (d : α) {i : Nat} (h : D.length = i) : (D ++ d :: r)[i]? = some d := by
  subst h
  rw [List.getElem?_append_right (Nat.le_refl _), Nat.sub_self]
  rfl
theorem deepKids_le (D : List Int) (m : Int) (hD : ∀ x ∈ D, 0 ≤ x ∧ x ≤ m) (hm : 0 ≤ m) : ∀ (l : List Int) (d : Int), 0 ≤ d → d ≤ m → 0 ≤ deepKids D d l ∧ deepKids D d l ≤ m
  | [], d, h0, h1 => ⟨h0, h1⟩
  | k :: l, d, h0, h1 => by
    have hk : 0 ≤ D.getD k.toNat 0 ∧ D.getD k.toNat 0 ≤ m := by
      rw [List.getD_eq_getElem?_getD]
      cases hg : D[k.toNat]? with
      | some z => exact hD z (List.mem_of_getElem? hg)
      | none => exact ⟨Int.le_refl _, hm⟩
    rw [deepKids]
    exact deepKids_le D m hD hm l _ (by omega) (by omega)
end Go.Bonsai
namespace Go.Proofs.YtalnmednhhimhaaDoor
open Go Go.Sl Go.RowKit Go.Bonsai
set_option linter.unusedVariables false
set_option linter.unusedSimpArgs false

theorem depth_any (v : Value) (t : Tre) (w : World) (hr : RTree (Old w) w v t) (ht : t.wf) (hT : Tab w) :
    Calls Tryd.prog 22 #[v] w (RetV w (.int .i64 (depthP t))) := by
  have hr0 := hr
  have ht0 := ht
  obtain ⟨ns, root⟩ := t
  obtain ⟨nv, rfl, A, c, rows0, rfl, hA, hrows, hc⟩ := hr
  obtain ⟨hlen, hwn, hroot⟩ := ht
  simp only at hA hrows hlen hwn hroot hc ⊢
  unfold bigN at hlen
  refine TC.calls (l := [.agg #[.slice A ns.length c, .int .i64 root]]) Tryd.func22 rfl Tryd.ntmps22 rfl (St.start w) ?_
  cases hri : rightP ⟨ns, root⟩ with
  | false =>
    have hrin : (!rightP ⟨ns, root⟩) = true := by rw [hri]; rfl
    repeat' (first | (refine T.callV rfl rfl (fun w' hw' => right_any _ ⟨ns, root⟩ w' (St.old_tree hw' hr0) ht0 (Tab.st hT hw')) ?_) | (refine W1 ?_) | (refine W2 (fun hc => ?_) (fun hc => ?_)) | (intro _))
    refine TX.ret_tmp rfl rfl (fun w' hw => RetV.eq hw ?_)
    simp [depthP, hri]
  | true =>
    have hrin : (!rightP ⟨ns, root⟩) = false := by rw [hri]; rfl
    have hR := rightP_spec hri
    have hrt := hR.root
    simp only at hrt
    have hm1 : 8 * ns.length ≤ 281474976710656 := by omega
    repeat' (first | (refine T.callV rfl rfl (fun w' hw' => right_any _ ⟨ns, root⟩ w' (St.old_tree hw' hr0) ht0 (Tab.st hT hw')) ?_) | (refine W1 ?_) | (refine W2 (fun hc => ?_) (fun hc => ?_)) | (intro _))
    rename_i b0 B
    refine TC.loopA (ι := Nat × List Int) (0, []) (fun k r => (18, .int .i64 k.1) :: r) (fun k => St w [own 3 1 (some ⟨B, 0, none⟩) ns.length ns.length (irows (k.2 ++ List.replicate (ns.length - k.1) 0)), blk b0 [.slice A ns.length c, .int .i64 root] 24])
      (fun k => k.1 ≤ ns.length ∧ k.2.length = k.1 ∧ deepGo (ns.drop k.1) k.2 = deepGo ns [] ∧ ∀ x ∈ k.2, 0 ≤ x ∧ x ≤ k.1) (fun k => ns.length - k.1) KpA SubA (fun w' hw => by rw [irows_rep] at hw; exact hw) ⟨Nat.zero_le _, rfl, rfl, by simp⟩ ?_
    rintro ⟨i, D⟩ ⟨hi, hDl, he, hDb⟩
    simp only at hi hDl he hDb ⊢
    by_cases hlt : i < ns.length
    · have hck : decide ((i : Int) < (ns.length : Int)) = true := by simp [hlt]
      have hns : ns[i]? = some ns[i] := List.getElem?_eq_getElem hlt
      obtain ⟨cs, hcs, kv, rfl, K, kc, rfl, hK, hkc⟩ := hrows.get hns
      have hwf := hwn _ (List.getElem_mem hlt)
      have hko := hR.kok i _ hns
      have hd : ns.drop i = ns[i] :: ns.drop (i + 1) := List.drop_eq_getElem_cons hlt
      rw [hd, deepGo] at he
      have hkl := hwf.kids.1
      unfold bigL at hkl
      generalize ns[i] = n at *
      have hA' : A = some (A.getD default) := hA.some_ (by omega)
      have hrep : List.replicate (ns.length - i) (0 : Int) = 0 :: List.replicate (ns.length - i - 1) 0 := by
        rw [show ns.length - i = (ns.length - i - 1) + 1 by omega, List.replicate_succ]
        simp
      rw [hrep]
      repeat' (first | (refine W1 ?_) | (refine W2 (fun hc => ?_) (fun hc => ?_)) | (intro _))
      rename_i b5
      refine TC.loopA (ι := Nat × Int) (0, 0) (fun k r => (26, .int .i64 k.1) :: r) (fun k => St w [own 3 1 (some ⟨B, 0, none⟩) ns.length ns.length (irows (D ++ k.2 :: List.replicate (ns.length - i - 1) 0)), blk b5 (n.cells (.slice K n.kids.length kc)) 55, blk b0 [.slice A ns.length c, .int .i64 root] 24])
        (fun k => k.1 ≤ n.kids.length ∧ deepKids D k.2 (n.kids.drop k.1) = deepKids D 0 n.kids ∧ 0 ≤ k.2 ∧ k.2 ≤ i) (fun k => n.kids.length - k.1) KpA SubA (fun w' hw => St.inc IncA hw) ⟨Nat.zero_le _, rfl, Int.le_refl _, by simp⟩ ?_
      rintro ⟨j, d⟩ ⟨hj, hje, hd0, hd1⟩
      simp only at hj hje hd0 hd1 ⊢
      by_cases hjl : j < n.kids.length
      · have hcj : decide ((j : Int) < (n.kids.length : Int)) = true := by simp [hjl]
        have hjk : n.kids[j]? = some n.kids[j] := List.getElem?_eq_getElem hjl
        have hko := hko _ (List.getElem_mem hjl)
        have hdk : n.kids.drop j = n.kids[j] :: n.kids.drop (j + 1) := List.drop_eq_getElem_cons hjl
        rw [hdk, deepKids] at hje
        generalize n.kids[j] = y at *
        obtain ⟨y, rfl⟩ : ∃ z : Nat, y = z := ⟨y.toNat, by omega⟩
        have hy : y < i := by omega
        have hyd : D[y]? = some (D.getD y 0) := by rw [List.getD_eq_getElem?_getD, List.getElem?_eq_getElem (by omega)]; rfl
        have hyg : (D ++ d :: List.replicate (ns.length - i - 1) 0)[y]? = some (D.getD y 0) := by rw [List.getElem?_append_left (by omega), hyd]
        have hig := get_atL D (List.replicate (ns.length - i - 1) 0) d hDl
        have hyb := hDb _ (List.mem_of_getElem? hyd)
        simp only [Int.toNat_natCast] at hje
        generalize D.getD y 0 = z at *
        have hKs : K = some (K.getD default) := hK.some_ (by omega)
        have hyN : y < ns.length := by omega
        repeat' (first | (refine W1 ?_) | (refine W2 (fun hc => ?_) (fun hc => ?_)) | (intro _))
        apply TL.loudN
        exact rfl
        refine Ac.storeA (i := i) (o := 0) (r := [.int .i64 d]) rfl rfl rfl rfl rfl rfl UpdA (by omega) (irows_get hig) (by simp)
        intro _
        rw [show (irows (D ++ d :: List.replicate (ns.length - i - 1) 0)).set i (splice [.int .i64 d] 0 [.int .i64 (max d z)]) = irows (D ++ max d z :: List.replicate (ns.length - i - 1) 0) from by rw [← set_atL D _ d (max d z) hDl, irows_set]; rfl]
        repeat' (first | (refine W1 ?_) | (refine W2 (fun hc => ?_) (fun hc => ?_)) | (intro _))
        exact TX.round (j + 1, max d z) ⟨hjl, hje, by omega, by omega⟩ (show n.kids.length - (j + 1) < n.kids.length - j by omega) SubA (fun w' hw => hw)
      · have hcj : decide ((j : Int) < (n.kids.length : Int)) = false := by simp; omega
        rw [List.drop_of_length_le (by omega), deepKids] at hje
        subst hje
        have hig := get_atL D (List.replicate (ns.length - i - 1) 0) (deepKids D 0 n.kids) hDl
        generalize deepKids D 0 n.kids = d at *
        have hI : I64 (d + 1) := by unfold I64; omega
        repeat' (first | (refine W1 ?_) | (refine W2 (fun hc => ?_) (fun hc => ?_)) | (intro _))
        refine T.storeA (i := i) (o := 0) (r := [.int .i64 d]) rfl rfl rfl rfl rfl rfl UpdA (by omega) (irows_get hig) (by simp) ?_
        rw [show (irows (D ++ d :: List.replicate (ns.length - i - 1) 0)).set i (splice [.int .i64 d] 0 [.int .i64 (d + 1)]) = irows ((D ++ [d + 1]) ++ List.replicate (ns.length - (i + 1)) 0) from by rw [List.append_assoc, List.singleton_append, Nat.sub_add_eq, ← set_atL D _ d (d + 1) hDl, irows_set]; rfl]
        repeat' (first | (refine W1 ?_) | (refine W2 (fun hc => ?_) (fun hc => ?_)) | (intro _))
        refine TX.round (i + 1, D ++ [d + 1]) ⟨hlt, by simp [hDl], he, ?_⟩ (show ns.length - (i + 1) < ns.length - i by omega) SubA (fun w' hw => St.inc IncA hw)
        intro x hx
        show 0 ≤ x ∧ x ≤ ((i + 1 : Nat) : Int)
        rcases List.mem_append.1 hx with hx | hx
        · have := hDb x hx; omega
        · simp at hx; omega
    · have hck : decide ((i : Int) < (ns.length : Int)) = false := by simp; omega
      obtain rfl : i = ns.length := by omega
      rw [List.drop_of_length_le (Nat.le_refl _), deepGo] at he
      rw [Nat.sub_self, List.replicate_zero, List.append_nil]
      obtain ⟨r, rfl⟩ : ∃ r : Nat, root = r := ⟨root.toNat, by omega⟩
      have hrN : r < ns.length := by omega
      have hrg : D[r]? = some (D.getD r 0) := by rw [List.getD_eq_getElem?_getD, List.getElem?_eq_getElem (by omega)]; rfl
      repeat' (first | (refine W1 ?_) | (refine W2 (fun hc => ?_) (fun hc => ?_)) | (intro _))
      refine TX.ret_tmp rfl rfl (fun w' hw => RetV.eq hw ?_)
      simp [depthP, hri, ← he]

theorem may_any (v : Value) (t : Tre) (w : World) (hr : RTree (Old w) w v t) (ht : t.wf) (hT : Tab w) :
    Calls Tryd.prog 9 #[v] w (RetV w (.bool (mayP t))) := by
  have hr0 := hr
  have ht0 := ht
  obtain ⟨ns, root⟩ := t
  obtain ⟨nv, rfl, A, c, rows0, rfl, hA, hrows, hc⟩ := hr
  refine TC.calls (l := [.agg #[.slice A ns.length c, .int .i64 root]]) Tryd.func9 rfl Tryd.ntmps9 rfl (St.start w) ?_
  repeat' (first | (refine T.callV rfl rfl (fun w' hw' => right_any _ ⟨ns, root⟩ w' (St.old_tree hw' hr0) ht0 (Tab.st hT hw')) ?_) | (refine T.callV rfl rfl (fun w' hw' => depth_any _ ⟨ns, root⟩ w' (St.old_tree hw' hr0) ht0 (Tab.st hT hw')) ?_) | (refine W1 ?_) | (refine W2 (fun hc => ?_) (fun hc => ?_)) | (intro _))
  all_goals refine TX.ret_tmp rfl rfl (fun w' hw => RetV.eq hw ?_)
  all_goals simp_all [mayP]
  all_goals (intros; omega)
end Go.Proofs.YtalnmednhhimhaaDoor
