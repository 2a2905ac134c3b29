/-
  The labels' texts, in the row's order: pure.
-/
import Derived.Test.YtalnmednhhimhaaGreatDoorSheet
set_option linter.all false
namespace Go.Bonsai
open Go Go.Sl Go.RowKit Go.Fl
/-- the labels' texts -/
def Drw.tx (d : Drw) : List ByteArray := d.ls.map (·.2)
theorem mvL_tx (b : Pt) (ls : List (Pt × ByteArray)) : (mvL b ls).map (·.2) = ls.map (·.2) := by simp [mvL]
/-- what a node writes itself -/
def labOf (n : Nod) : List ByteArray :=
  if n.kind = 1 then [⟨(classB n.set).toArray⟩] else if n.kind = 2 then [⟨(litB n.text).toArray⟩] else if n.kind = 3 then [n.text]
  else if n.kind = 6 then [countB n.min n.max] else if n.kind = 7 then [⟨#[38]⟩] else if n.kind = 8 then [⟨#[33]⟩] else if n.kind = 9 then [n.text ++ ⟨#[58]⟩] else []
theorem seqF_tx (l : List Drw) : ∀ d : Drw, (l.foldl seqD1 d).tx = d.tx ++ l.flatMap Drw.tx := by
  induction l with
  | nil => intro d; simp
  | cons k l ih =>
    intro d
    rw [List.foldl_cons, ih, List.flatMap_cons, ← List.append_assoc]
    congr 1
    simp [Drw.tx, seqD1, mvL]
theorem seqD_tx : ∀ l : List Drw, (seqD l).tx = l.flatMap Drw.tx
  | [] => rfl
  | k :: l => by
    show (l.foldl seqD1 (seqD0 k)).tx = _
    rw [seqF_tx, List.flatMap_cons]
    congr 1
    simp [Drw.tx, seqD0, mvL]
theorem choF_tx (wd : Int) (l : List Drw) : ∀ d : Drw, (l.foldl (choD1 wd) d).tx = d.tx ++ l.flatMap Drw.tx := by
  induction l with
  | nil => intro d; simp
  | cons k l ih =>
    intro d
    rw [List.foldl_cons, ih, List.flatMap_cons, ← List.append_assoc]
    congr 1
    simp [Drw.tx, choD1, mvL]
theorem choD_tx : ∀ l : List Drw, (choD l).tx = l.flatMap Drw.tx
  | [] => rfl
  | k :: l => by
    show (l.foldl (choD1 _) (choD0 _ k)).tx = _
    rw [choF_tx, List.flatMap_cons]
    congr 1
    simp [Drw.tx, choD0, mvL]
theorem nodeD_tx {n : Nod} {ks : List Drw} (h : FitD n ks.length) : (nodeD n ks).tx = labOf n ++ ks.flatMap Drw.tx := by
  have hk := h.kind
  have e : n.kind = 0 ∨ n.kind = 1 ∨ n.kind = 2 ∨ n.kind = 3 ∨ n.kind = 4 ∨ n.kind = 5 ∨ n.kind = 6 ∨ n.kind = 7 ∨ n.kind = 8 ∨ n.kind = 9 := by omega
  have hleaf : n.kind ≤ 3 → ks = [] := fun hh => List.eq_nil_of_length_eq_zero (h.leaf hh)
  have hone : 6 ≤ n.kind → ∃ k, ks = [k] := fun hh => one_kid (h.one hh)
  rcases e with e | e | e | e | e | e | e | e | e | e
  · rw [hleaf (by omega)]; simp [nodeD, labOf, e]; rfl
  · rw [hleaf (by omega)]; simp [nodeD, labOf, e]; rfl
  · rw [hleaf (by omega)]; simp [nodeD, labOf, e]; rfl
  · rw [hleaf (by omega)]; simp [nodeD, labOf, e]; rfl
  · simp [nodeD, labOf, e, seqD_tx]
  · simp [nodeD, labOf, e, choD_tx]
  · obtain ⟨k, rfl⟩ := hone (by omega); simp [nodeD, labOf, e, repD, throughD, Drw.tx, mvL]
  · obtain ⟨k, rfl⟩ := hone (by omega); simp [nodeD, labOf, e, framedD, throughD, Drw.tx, mvL]
  · obtain ⟨k, rfl⟩ := hone (by omega); simp [nodeD, labOf, e, framedD, throughD, Drw.tx, mvL]
  · obtain ⟨k, rfl⟩ := hone (by omega); simp [nodeD, labOf, e, framedD, throughD, Drw.tx, mvL]
/-- the node at a number of the row -/
def nodAt (t : Tre) (x : Int) : Nod := t.nodes.getD x.toNat .zero
theorem drw_tx {t : Tre} (h : RightT t) : ∀ (m : Nat) (l : List Int), (∀ k ∈ l, 0 ≤ k ∧ k < m) → m ≤ t.nodes.length → l.flatMap (fun k => (drwAt t.nodes k).tx) = (dfs (chOf t.nodes) t.nodes.length l).flatMap (fun x => labOf (nodAt t x))
  | 0, l, hl, _ => by
    cases l with
    | nil => rw [dfs_nil]; rfl
    | cons k l => have := hl k (by simp); omega
  | m + 1, l, hl, hm => by
    induction l with
    | nil => rw [dfs_nil]; rfl
    | cons k l ih =>
      have hk := hl k (by simp)
      obtain ⟨i, rfl⟩ : ∃ i : Nat, k = i := ⟨k.toNat, by omega⟩
      have hi : i < t.nodes.length := by omega
      have hg := List.getElem?_eq_getElem hi
      have hf := h.fits i _ hg
      have hc : ∀ y ∈ chOf t.nodes i, 0 ≤ y ∧ y < m := fun y hy => by have := h.kok.chOf i y hy; omega
      rw [dfs_cons h.kok.chOf hk.1 (by omega), List.flatMap_cons, List.flatMap_cons, List.flatMap_append, ih (fun y hy => hl y (by simp [hy])), ← List.append_assoc]
      congr 1
      have hfd := fitD (show fits t.nodes[i] ((t.nodes[i].kids.map (drwAt t.nodes)).length : Nat) = true by rw [List.length_map]; exact hf)
      rw [drwAt_get h.kok hg, nodeD_tx hfd, List.flatMap_map, chOf_get hg, drw_tx h m _ hc (by omega)]
      have e : nodAt t (i : Int) = t.nodes[i] := by
        unfold nodAt
        rw [List.getD_eq_getElem?_getD, Int.toNat_natCast, hg]
        rfl
      rw [e]
theorem drawP_tx {t : Tre} (h : RightT t) : (drawP t).tx = (rowP t).flatMap (fun x => labOf (nodAt t x)) := by
  have hr := h.root
  obtain ⟨r, hrr⟩ : ∃ r : Nat, t.root = r := ⟨t.root.toNat, by omega⟩
  have e : drawP t = drwAt t.nodes t.root := rfl
  have := drw_tx h t.nodes.length [t.root] (fun k hk => by rw [List.mem_singleton] at hk; subst hk; exact hr) (Nat.le_refl _)
  rw [List.flatMap_cons, List.flatMap_nil, List.append_nil] at this
  rw [e, this]
  rfl
theorem flat_one {α β : Type} {f : α → List β} {l : List α} {i : Nat} {x : α} {s : β} (hx : l[i]? = some x) (h : f x = [s]) : (l.flatMap f)[((l.take i).flatMap f).length]? = some s ∧ ((l.take (i + 1)).flatMap f).length = ((l.take i).flatMap f).length + 1 := by
  have hlt := (List.getElem?_eq_some_iff.1 hx).1
  rw [List.getElem?_eq_getElem hlt] at hx
  cases hx
  have e : l.flatMap f = (l.take i).flatMap f ++ (s :: (l.drop (i + 1)).flatMap f) := by
    rw [← List.singleton_append, ← h, ← List.flatMap_cons, ← List.drop_eq_getElem_cons hlt, ← List.flatMap_append, List.take_append_drop]
  constructor
  · rw [e, List.getElem?_append_right (Nat.le_refl _), Nat.sub_self]
    rfl
  · rw [List.take_succ_eq_append_getElem hlt, List.flatMap_append, List.length_append, List.flatMap_cons, h]
    rfl
theorem flat_none {α β : Type} {f : α → List β} {l : List α} {i : Nat} {x : α} (hx : l[i]? = some x) (h : f x = []) : ((l.take (i + 1)).flatMap f).length = ((l.take i).flatMap f).length := by
  have hlt := (List.getElem?_eq_some_iff.1 hx).1
  rw [List.getElem?_eq_getElem hlt] at hx
  cases hx
  rw [List.take_succ_eq_append_getElem hlt, List.flatMap_append, List.length_append, List.flatMap_cons, h]
  rfl
/-- what a label must be for its node's kind -/
structure LabF (n : Nod) (s : ByteArray) : Prop where
  ne : s ≠ ⟨#[]⟩
  k3 : n.kind = 3 → s = n.text
  k9 : n.kind = 9 → s = n.text ++ ⟨#[58]⟩
  k7 : n.kind = 7 → s = ⟨#[38]⟩
  k8 : n.kind = 8 → s = ⟨#[33]⟩
  k2 : n.kind = 2 → s.data[0]? = some 34
  k1 : n.kind = 1 → s = ⟨#[46]⟩ ∨ (s ≠ ⟨#[46]⟩ ∧ s.data[0]? = some 91)
theorem ne_of_size {s : ByteArray} (h : 1 ≤ s.size) : s ≠ ⟨#[]⟩ := by
  rintro rfl
  exact absurd h (by decide)
theorem labF {n : Nod} {m : Nat} (h : FitD n m) (hn : n.kind ≠ 0 ∧ n.kind ≠ 4 ∧ n.kind ≠ 5) : ∃ s, labOf n = [s] ∧ LabF n s := by
  have hk := h.kind
  have e : n.kind = 1 ∨ n.kind = 2 ∨ n.kind = 3 ∨ n.kind = 6 ∨ n.kind = 7 ∨ n.kind = 8 ∨ n.kind = 9 := by omega
  rcases e with e | e | e | e | e | e | e
  · refine ⟨⟨(classB n.set).toArray⟩, by simp [labOf, e], ?_, by omega, by omega, by omega, by omega, by omega, fun _ => ?_⟩
    · unfold classB
      split
      · decide
      · exact fun hh => by simpa using congrArg ByteArray.data hh
    · unfold classB
      split
      · exact .inl rfl
      · exact .inr ⟨fun hh => by simpa using congrArg ByteArray.data hh, by simp⟩
  · refine ⟨⟨(litB n.text).toArray⟩, by simp [labOf, e], ?_, by omega, by omega, by omega, by omega, fun _ => by simp [litB], by omega⟩
    exact fun hh => by simpa [litB] using congrArg ByteArray.data hh
  · exact ⟨n.text, by simp [labOf, e], ne_of_size (h.lit (by omega)), fun _ => rfl, by omega, by omega, by omega, by omega, by omega⟩
  · refine ⟨countB n.min n.max, by simp [labOf, e], ne_of_size ?_, by omega, by omega, by omega, by omega, by omega, by omega⟩
    have h1 := h.min; have h2 := h.max
    exact (countB_size ⟨h1.1, h1.2⟩ ⟨h2.1, h2.2⟩).2
  · exact ⟨⟨#[38]⟩, by simp [labOf, e], by decide, by omega, by omega, fun _ => rfl, by omega, by omega, by omega⟩
  · exact ⟨⟨#[33]⟩, by simp [labOf, e], by decide, by omega, by omega, by omega, fun _ => rfl, by omega, by omega⟩
  · refine ⟨n.text ++ ⟨#[58]⟩, by simp [labOf, e], ?_, by omega, fun _ => rfl, by omega, by omega, by omega, by omega⟩
    refine ne_of_size ?_
    rw [ByteArray.size_append]
    have : (⟨#[58]⟩ : ByteArray).size = 1 := rfl
    omega
/-- how many labels stand before the i-th of the row -/
def labC (t : Tre) (i : Nat) : Nat := (((walkP t).take i).flatMap (fun x => labOf (nodAt t x))).length
theorem labC_zero (t : Tre) : labC t 0 = 0 := rfl
theorem walk_tx {t : Tre} (hm : mayP t = true) : (drawP t).tx = (walkP t).flatMap (fun x => labOf (nodAt t x)) := by
  obtain ⟨hR, _⟩ := mayP_right hm
  have hr : rightP t = true := by
    unfold mayP at hm
    simp only [Bool.and_eq_true] at hm
    exact hm.1.2
  have e : walkP t = rowP t := by unfold walkP; rw [if_pos hr]
  rw [e, drawP_tx hR]
theorem labC_end {t : Tre} (hm : mayP t = true) : labC t (walkP t).length = (drawP t).ls.length := by
  unfold labC
  rw [List.take_of_length_le (Nat.le_refl _), ← walk_tx hm]
  simp [Drw.tx]
theorem lab_at {t : Tre} (hm : mayP t = true) {i : Nat} {x : Int} (hx : (walkP t)[i]? = some x) : ∃ (j : Nat) (n : Nod), x = j ∧ t.nodes[j]? = some n ∧ FitD n n.kids.length ∧ nodAt t x = n := by
  obtain ⟨hR, _⟩ := mayP_right hm
  have hr : rightP t = true := by
    unfold mayP at hm
    simp only [Bool.and_eq_true] at hm
    exact hm.1.2
  have e : walkP t = rowP t := by unfold walkP; rw [if_pos hr]
  rw [e] at hx
  have hmem := ((row_ok hR).mem x).1 (List.mem_of_getElem? hx)
  have hlt : x.toNat < t.nodes.length := by omega
  have hg := List.getElem?_eq_getElem hlt
  refine ⟨x.toNat, t.nodes[x.toNat], by omega, hg, fitD (hR.fits _ _ hg), ?_⟩
  unfold nodAt
  rw [List.getD_eq_getElem?_getD, hg]
  rfl
theorem lab_one {t : Tre} (hm : mayP t = true) {i : Nat} {x : Int} {s : ByteArray} (hx : (walkP t)[i]? = some x) (h : labOf (nodAt t x) = [s]) : (drawP t).tx[labC t i]? = some s ∧ labC t (i + 1) = labC t i + 1 := by
  rw [walk_tx hm]
  exact flat_one hx h
theorem lab_none {t : Tre} {i : Nat} {x : Int} (hx : (walkP t)[i]? = some x) (h : labOf (nodAt t x) = []) : labC t (i + 1) = labC t i := flat_none hx h
theorem labN {n : Nod} (hn : n.kind = 0 ∨ n.kind = 4 ∨ n.kind = 5) : labOf n = [] := by
  rcases hn with e | e | e <;> simp [labOf, e]
end Go.Bonsai
