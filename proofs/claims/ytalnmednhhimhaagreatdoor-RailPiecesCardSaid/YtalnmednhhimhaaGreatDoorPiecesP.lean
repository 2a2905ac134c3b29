/-
  The drawing of a Seq of trees, pure: piece by piece.
-/
import Derived.Test.YtalnmednhhimhaaGreatDoorRailC
set_option linter.all false
namespace Go.Bonsai
open Go
theorem foT_drw {t : Tre} (h : RightT t) : (foT t).drw = [drawP t] := by
  have h1 := h.root
  have := foOf_drw t.nodes (by omega) [t.root]
  exact this
theorem foL_drw : ∀ {l : List Tre}, (∀ t ∈ l, rightP t = true) → (foL l).drw = l.map drawP
  | [], _ => rfl
  | t :: l, h => by
    have h1 := foT_drw (rightP_spec (h t (by simp)))
    have h2 := foL_drw (l := l) (fun x hx => h x (by simp [hx]))
    show ((foT t).app (foL l)).drw = _
    rw [Fo.drw_app, h1, h2]
    rfl
theorem foL_depth_ge : ∀ {l : List Tre} {t : Tre}, t ∈ l → (foT t).depth ≤ (foL l).depth
  | [], t, h => by cases h
  | x :: l, t, h => by
    show (foT t).depth ≤ ((foT x).app (foL l)).depth
    rw [Fo.depth_app]
    rcases List.mem_cons.1 h with rfl | h
    · omega
    · have := foL_depth_ge h
      omega
theorem ofP_yes {n : Nod} {l : List Tre} (h : (ofP n l).2 = true) : fits n l.length = true ∧ ∀ t ∈ l, rightP t = true := by
  by_cases hh : fits n l.length = true ∧ ∀ t ∈ l, rightP t = true
  · exact hh
  · rw [ofP_no hh] at h
    cases h
theorem ofP_foT {n : Nod} {l : List Tre} (h : (ofP n l).2 = true) : foT (ofP n l).1 = .cons { n with kids := [] } (foL l) .nil ∧ RightT (ofP n l).1 := by
  obtain ⟨h1, h2⟩ := ofP_yes h
  obtain ⟨g1, g2, g3⟩ := foL_len l h2
  have hf : (Fo.cons { n with kids := [] } (foL l) .nil).fit = true := by
    simp only [Fo.fit, Bool.and_true, Bool.and_eq_true]
    refine ⟨?_, g2⟩
    rw [fits_kids, g1]
    exact h1
  rw [ofP_fo h1 h2]
  exact ⟨foT_treT ⟨rfl, g3, trivial⟩, rightP_spec (right_treT hf)⟩
theorem ofP_draw {n : Nod} {l : List Tre} (h : (ofP n l).2 = true) : drawP (ofP n l).1 = nodeD n (l.map drawP) := by
  obtain ⟨h1, h2⟩ := ofP_foT h
  rw [drawP_fo, h1]
  show nodeD { n with kids := [] } (foL l).drw = _
  rw [foL_drw (ofP_yes h).2]
  rfl
theorem ofP_may {n : Nod} {l : List Tre} (h : (ofP n l).2 = true) (hm : mayP (ofP n l).1 = true) : ∀ t ∈ l, mayP t = true := by
  intro t ht
  obtain ⟨h1, h2⟩ := ofP_foT h
  have hr := (ofP_yes h).2 t ht
  have hrt := rightP_spec hr
  unfold mayP at hm ⊢
  simp only [Bool.and_eq_true, decide_eq_true_eq] at hm ⊢
  obtain ⟨⟨m1, m2⟩, m3⟩ := hm
  have hs := size_fo h2
  rw [h1] at hs
  simp only [Fo.size] at hs
  have hl := foL_size (ofP_yes h).2
  have ht2 := tot_le ht
  rw [depthP_fo h2, h1] at m3
  simp only [Fo.depth] at m3
  have hd := foL_depth_ge ht
  refine ⟨⟨by omega, hr⟩, ?_⟩
  rw [depthP_fo hrt]
  omega
/-! ### a Seq's drawing, piece by piece -/
theorem seqE_pre (i : Nat) (d : Drw) : ∃ r, (seqE i d).ss = d.ss ++ r := by
  unfold seqE
  split
  · exact ⟨[], by simp⟩
  · exact ⟨_, rfl⟩
theorem seqE_ls (i : Nat) (d : Drw) : (seqE i d).ls = d.ls := by unfold seqE; split <;> rfl
/-- all steps behind the i-th only add -/
theorem seqD_pre (ks : List Drw) : ∀ (m i : Nat), i + m = ks.length → (∃ r, (seqD ks).ss = (seqD (ks.take i)).ss ++ r) ∧ ∃ r, (seqD ks).ls = (seqD (ks.take i)).ls ++ r
  | 0, i, h => by
    rw [List.take_of_length_le (by omega)]
    exact ⟨⟨[], by simp⟩, ⟨[], by simp⟩⟩
  | m + 1, i, h => by
    obtain ⟨⟨r1, h1⟩, ⟨r2, h2⟩⟩ := seqD_pre ks m (i + 1) (by omega)
    have hlt : i < ks.length := by omega
    have hst := seqD_step (l := ks) (i := i) (k := ks[i]) (List.take_succ_eq_append_getElem hlt) hlt
    obtain ⟨r3, h3⟩ := seqE_pre i (seqD (ks.take i))
    constructor
    · refine ⟨r3 ++ mvS ((seqE i (seqD (ks.take i))).w, 0) ks[i].ss ++ r1, ?_⟩
      rw [h1, hst]
      simp only [h3, List.append_assoc]
    · refine ⟨mvL ((seqE i (seqD (ks.take i))).w, 0) ks[i].ls ++ r2, ?_⟩
      rw [h2, hst]
      simp only [seqE_ls, List.append_assoc]
/-- where the i-th piece begins: its place, its first stroke, its first label -/
def pX (ks : List Drw) (i : Nat) : Int := (seqE i (seqD (ks.take i))).w
def pA (ks : List Drw) (i : Nat) : Nat := (seqE i (seqD (ks.take i))).ss.length
def pL (ks : List Drw) (i : Nat) : Nat := (seqD (ks.take i)).ls.length
structure Piece (ks : List Drw) (i : Nat) (k : Drw) : Prop where
  x : pX ks (i + 1) = pX ks i + k.w + 2
  a : pA ks (i + 1) = pA ks i + k.ss.length + 1
  l : pL ks (i + 1) = pL ks i + k.ls.length
  ale : pA ks i + k.ss.length ≤ (seqD ks).ss.length
  lle : pL ks i + k.ls.length ≤ (seqD ks).ls.length
  ss : ((seqD ks).ss.drop (pA ks i)).take k.ss.length = mvS (pX ks i, 0) k.ss
  ls : ((seqD ks).ls.drop (pL ks i)).take k.ls.length = mvL (pX ks i, 0) k.ls
theorem piece {ks : List Drw} {i : Nat} {k : Drw} (hk : ks[i]? = some k) : Piece ks i k := by
  have hlt := (List.getElem?_eq_some_iff.1 hk).1
  have htk : ks.take (i + 1) = ks.take i ++ [k] := by
    rw [List.take_succ_eq_append_getElem hlt]
    rw [List.getElem?_eq_getElem hlt] at hk
    cases hk
    rfl
  have hst := seqD_step htk hlt
  obtain ⟨⟨r1, h1⟩, ⟨r2, h2⟩⟩ := seqD_pre ks (ks.length - (i + 1)) (i + 1) (by omega)
  have e1 : seqE (i + 1) (seqD (ks.take (i + 1))) = ⟨(seqD (ks.take (i + 1))).w + 2, (seqD (ks.take (i + 1))).up, (seqD (ks.take (i + 1))).dn, (seqD (ks.take (i + 1))).ss ++ [[((seqD (ks.take (i + 1))).w, 0), ((seqD (ks.take (i + 1))).w + 2, 0)]], (seqD (ks.take (i + 1))).ls⟩ := by
    unfold seqE
    rw [if_neg (by omega)]
  have ls1 : (mvS (pX ks i, 0) k.ss).length = k.ss.length := by simp [mvS]
  have ls2 : (mvL (pX ks i, 0) k.ls).length = k.ls.length := by simp [mvL]
  have hs : (seqD (ks.take (i + 1))).ss = (seqE i (seqD (ks.take i))).ss ++ mvS (pX ks i, 0) k.ss := by rw [hst]; rfl
  have hl : (seqD (ks.take (i + 1))).ls = (seqD (ks.take i)).ls ++ mvL (pX ks i, 0) k.ls := by
    rw [hst]
    show (seqE i (seqD (ks.take i))).ls ++ _ = _
    rw [seqE_ls]
    rfl
  have hw : (seqD (ks.take (i + 1))).w = pX ks i + k.w := by rw [hst]; rfl
  refine ⟨?_, ?_, ?_, ?_, ?_, ?_, ?_⟩
  · show (seqE (i + 1) (seqD (ks.take (i + 1)))).w = _
    rw [e1]
    show (seqD (ks.take (i + 1))).w + 2 = _
    rw [hw]
  · show (seqE (i + 1) (seqD (ks.take (i + 1)))).ss.length = _
    rw [e1]
    show ((seqD (ks.take (i + 1))).ss ++ _).length = _
    rw [hs, List.length_append, List.length_append, ls1]
    rfl
  · show (seqD (ks.take (i + 1))).ls.length = _
    rw [hl, List.length_append, ls2]
    rfl
  · rw [h1, hs, List.length_append, List.length_append, ls1]
    show pA ks i + _ ≤ pA ks i + _ + _
    omega
  · rw [h2, hl, List.length_append, List.length_append, ls2]
    show pL ks i + _ ≤ pL ks i + _ + _
    omega
  · rw [h1, hs, List.append_assoc]
    show (List.drop (seqE i (seqD (ks.take i))).ss.length _).take _ = _
    rw [List.drop_left, ← ls1, List.take_left]
  · rw [h2, hl, List.append_assoc]
    show (List.drop (seqD (ks.take i)).ls.length _).take _ = _
    rw [List.drop_left, ← ls2, List.take_left]
theorem pieces_zero (ks : List Drw) : pX ks 0 = 0 ∧ pA ks 0 = 0 ∧ pL ks 0 = 0 := ⟨rfl, rfl, rfl⟩
theorem pieces_end {ks : List Drw} (h : 0 < ks.length) : pX ks ks.length = (seqD ks).w + 2 ∧ pA ks ks.length = (seqD ks).ss.length + 1 := by
  unfold pX pA
  rw [List.take_of_length_le (Nat.le_refl _)]
  unfold seqE
  rw [if_neg (by omega)]
  exact ⟨rfl, by simp⟩
end Go.Bonsai
