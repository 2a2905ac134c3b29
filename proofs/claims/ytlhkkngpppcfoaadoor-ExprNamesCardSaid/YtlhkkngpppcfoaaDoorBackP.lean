/-
  The plain facts that TreeBack tells: what tree.Of makes is taken apart again.
-/
import Derived.Test.YtlhkkngpppcfoaaDoorKids
import Derived.Test.YtlhkkngpppcfoaaDoorFoD
set_option linter.all false
namespace Go.Bonsai
open Go Go.Sl Go.RowKit
def allR (l : List Tre) : Bool := l.all fun t => rightP t
theorem allR_iff {l : List Tre} : allR l = true ↔ ∀ t ∈ l, rightP t = true := by simp [allR]
def sizeL (l : List Tre) : Int := (l.map sizeP).sum
def deepL : List Tre → Int
  | [] => 0
  | t :: l => max (depthP t) (deepL l)
theorem ofP_is (n : Nod) (l : List Tre) : (ofP n l).2 = (fits n l.length && allR l) := by
  by_cases h : fits n l.length = true ∧ ∀ t ∈ l, rightP t = true
  · rw [ofP_fo h.1 h.2, h.1, allR_iff.2 h.2]; rfl
  · rw [ofP_no h]
    cases h1 : fits n l.length with
    | false => rfl
    | true =>
      cases h2 : allR l with
      | false => rfl
      | true => exact absurd ⟨h1, allR_iff.1 h2⟩ h
/-- what has been made -/
structure Made (n : Nod) (l : List Tre) (x : Tre) : Prop where
  right : rightP x = true
  fo : foT x = .cons { n with kids := [] } (foL l) .nil
  clean : cleanP x = x
  root : rootP x = { n with kids := [] }
  kids : kidsP x = (foL l).trees
theorem root_fo {t : Tre} (h : rightP t = true) : ∃ F, foT t = .cons (rootP t) F .nil := by
  have hR := rightP_spec h
  have h0 := hR.root
  obtain ⟨N, hN⟩ : ∃ N, t.nodes.length = N + 1 := ⟨t.nodes.length - 1, by omega⟩
  refine ⟨foOf t.nodes N (chOf t.nodes t.root), ?_⟩
  unfold foT
  rw [hN, foOf_cons, foOf_nil, rootP, if_pos h]
  rfl
theorem made {n : Nod} {l : List Tre} (hf : fits n l.length = true) (h : ∀ t ∈ l, rightP t = true) : Made n l (ofP n l).1 := by
  obtain ⟨h1, h2, h3⟩ := ofP_right hf h
  have hr := rightP_iff.2 h1
  refine ⟨hr, h2, ?_, ?_, ?_⟩
  · rw [cleanP_treT hr, h2, ofP_fo hf h]
  · obtain ⟨F, hF⟩ := root_fo hr
    rw [hF] at h2
    injection h2
  · rw [kidsP, if_pos hr, h2]; rfl
theorem foL_trees : ∀ {l : List Tre}, (∀ t ∈ l, rightP t = true) → (foL l).trees = l.map cleanP
  | [], _ => rfl
  | t :: l, h => by
    have ht := h t (by simp)
    obtain ⟨n, k, e, hb, hf⟩ := foT_one (rightP_spec ht)
    rw [foL, Fo.trees_app, foL_trees (fun x hx => h x (by simp [hx])), List.map_cons, cleanP_treT ht, e]
    rfl
theorem foL_depth : ∀ {l : List Tre}, (∀ t ∈ l, rightP t = true) → (foL l).depth = deepL l
  | [], _ => rfl
  | t :: l, h => by rw [foL, Fo.depth_app, deepL, foL_depth (fun x hx => h x (by simp [hx])), depthP_fo (rightP_spec (h t (by simp)))]
theorem tot_sizeL : ∀ {l : List Tre}, (∀ t ∈ l, rightP t = true) → sizeL l = (tot l : Int)
  | [], _ => rfl
  | t :: l, h => by
    have := tot_sizeL (l := l) (fun x hx => h x (by simp [hx]))
    simp only [sizeL, List.map_cons, List.sum_cons] at this ⊢
    rw [this, tot_cons, sizeP, if_pos (h t (by simp))]
    omega
theorem made_size {n : Nod} {l : List Tre} (hf : fits n l.length = true) (h : ∀ t ∈ l, rightP t = true) : sizeP (ofP n l).1 = 1 + sizeL l := by
  have m := made hf h
  rw [sizeP, if_pos m.right, ← size_fo (rightP_spec m.right), m.fo, tot_sizeL h]
  simp only [Fo.size, foL_size h]
  omega
theorem made_depth {n : Nod} {l : List Tre} (hf : fits n l.length = true) (h : ∀ t ∈ l, rightP t = true) : depthP (ofP n l).1 = deepL l + 1 := by
  have m := made hf h
  rw [depthP_fo (rightP_spec m.right), m.fo]
  simp only [Fo.depth, foL_depth h]
  have := Fo.depth_nonneg (foL l)
  rw [foL_depth h] at this
  omega
theorem made_kids {n : Nod} {l : List Tre} (hf : fits n l.length = true) (h : ∀ t ∈ l, rightP t = true) : kidsP (ofP n l).1 = l.map cleanP := by
  rw [(made hf h).kids, foL_trees h]
/-- the kids of a right tree -/
theorem trees_right : ∀ {F : Fo}, F.fit = true → F.bare → (∀ t ∈ F.trees, rightP t = true) ∧ foL F.trees = F
  | .nil, _, _ => ⟨by simp [Fo.trees], rfl⟩
  | .cons m j r, hf, hb => by
    simp only [Fo.fit, Bool.and_eq_true] at hf
    obtain ⟨h1, h2⟩ := trees_right (F := r) hf.2 hb.2.2
    have hr : rightP (treT (.cons m j .nil)) = true := right_treT (by simp only [Fo.fit, hf.1.1, hf.1.2]; rfl)
    refine ⟨fun t ht => ?_, ?_⟩
    · rcases List.mem_cons.1 ht with rfl | ht
      · exact hr
      · exact h1 t ht
    · rw [Fo.trees, foL, h2, foT_treT ⟨hb.1, hb.2.1, trivial⟩]
      rfl
theorem back {t : Tre} (h : rightP t = true) : ofP (rootP t) (kidsP t) = (cleanP t, true) := by
  obtain ⟨F, hF⟩ := root_fo h
  obtain ⟨n, k, e, hb, hf⟩ := foT_one (rightP_spec h)
  have e1 : Fo.cons (rootP t) F .nil = .cons n k .nil := hF.symm.trans e
  injection e1 with e2 e3 _
  subst e3
  have hk : kidsP t = F.trees := by rw [kidsP, if_pos h, e]; rfl
  simp only [Fo.fit, Bool.and_eq_true] at hf
  obtain ⟨h1, h2⟩ := trees_right (F := F) hf.1.2 hb.2.1
  have hrk : (rootP t).kids = [] := by rw [rootP, if_pos h]
  have hfit : fits (rootP t) F.trees.length = true := by rw [Fo.trees_len, e2]; exact hf.1.1
  rw [hk, ofP_fo hfit h1, h2, cleanP_treT h, e, ← e2]
  congr 3
  cases hh : rootP t
  rw [hh] at hrk
  simp at hrk
  rw [hrk]
theorem kidsP_wf {t : Tre} (h : t.wf) : ∀ x ∈ kidsP t, x.wf := by
  intro x hx
  cases hr : rightP t with
  | false => rw [kidsP, if_neg (by rw [hr]; simp)] at hx; simp at hx
  | true =>
    obtain ⟨n, k, e, hb, hf⟩ := foT_one (rightP_spec hr)
    have hsz := size_fo (rightP_spec hr)
    have hd : (foT t).dwf := foOf_dwf h.nodes _ _
    have hl := h.len
    rw [e] at hsz hd
    simp only [Fo.size] at hsz
    rw [kidsP, if_pos hr, e] at hx
    have key : ∀ F : Fo, F.dwf → F.size ≤ bigN → ∀ x ∈ F.trees, x.wf := by
      intro F
      induction F with
      | nil => intro _ _ x hx; simp [Fo.trees] at hx
      | cons m j r _ ih =>
        intro hd hs x hx
        simp only [Fo.size] at hs
        rcases List.mem_cons.1 hx with rfl | hx
        · exact treT_wf ⟨hd.1, hd.2.1, trivial⟩ (by simp only [Fo.size]; omega)
        · exact ih hd.2.2 (by omega) x hx
    exact key k hd.2.1 (by omega) x hx
theorem kidsP_tot (t : Tre) : tot (kidsP t) ≤ t.nodes.length - 1 ∧ (kidsP t).length ≤ t.nodes.length := by
  cases hr : rightP t with
  | false => rw [kidsP, if_neg (by rw [hr]; simp)]; simp [tot]
  | true =>
    obtain ⟨n, k, e, hb, hf⟩ := foT_one (rightP_spec hr)
    have hsz := size_fo (rightP_spec hr)
    simp only [Fo.fit, Bool.and_eq_true] at hf
    obtain ⟨h1, h2⟩ := trees_right (F := k) hf.1.2 hb.2.1
    have h3 := foL_size h1
    have h4 := Fo.len_le k
    rw [h2] at h3
    rw [e] at hsz
    simp only [Fo.size] at hsz
    rw [kidsP, if_pos hr, e]
    show tot k.trees ≤ _ ∧ k.trees.length ≤ _
    rw [← h3, Fo.trees_len]
    omega
theorem rootP_wf {t : Tre} (h : t.wf) : (rootP t).wf := by
  unfold rootP
  split
  · rw [List.getD_eq_getElem?_getD]
    cases hg : t.nodes[t.root.toNat]? with
    | some m => exact (h.nodes m (List.mem_of_getElem? hg)).wf0
    | none => exact Nod.zero_wf.wf0
  · exact Nod.zero_wf
end Go.Bonsai
