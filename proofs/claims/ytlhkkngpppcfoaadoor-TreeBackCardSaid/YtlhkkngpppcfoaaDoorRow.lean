/-
  A right tree's row: each number once, each node's kids behind it, in their order.
-/
import Derived.Test.YtlhkkngpppcfoaaDoorOrder
set_option linter.all false
namespace Go.Bonsai

/-! ### what `right` says -/
theorem getD_set (l : List Bool) (i j : Nat) (b : Bool) (hi : i < l.length) : (l.set i b).getD j false = if i = j then b else l.getD j false := by
  simp only [List.getD_eq_getElem?_getD, List.getElem?_set]
  by_cases h : i = j
  · subst h; simp [hi]
  · simp [h]

theorem takeKids_count (i : Int) : ∀ (l : List Int) (tk tk' : List Bool), i ≤ tk.length → takeKids i l tk = some tk' →
    (∀ k ∈ l, 0 ≤ k ∧ k < i) ∧ ∀ j : Nat, (tk'.getD j false).toNat = (tk.getD j false).toNat + l.count (j : Int)
  | [], tk, tk', _, h => by simp [takeKids] at h; subst h; simp
  | k :: l, tk, tk', hi, h => by
    unfold takeKids at h
    split at h
    · cases h
    · rename_i hc
      have h0 : 0 ≤ k ∧ k < i := by omega
      have htk : tk.getD k.toNat false = false := by
        cases hh : tk.getD k.toNat false with
        | false => rfl
        | true => exact absurd (.inr (.inr hh)) hc
      obtain ⟨h1, h2⟩ := takeKids_count i l _ _ (by simpa using hi) h
      refine ⟨fun x hx => ?_, fun j => ?_⟩
      · rcases List.mem_cons.1 hx with rfl | hx
        · exact h0
        · exact h1 x hx
      · rw [h2 j, getD_set _ _ _ _ (by omega), List.count_cons]
        by_cases hj : k.toNat = j
        · subst hj
          rw [if_pos rfl, htk]
          have : (k == ((k.toNat : Nat) : Int)) = true := by simp; omega
          rw [this]
          simp; omega
        · rw [if_neg hj]
          have : (k == (j : Int)) = false := by simp; omega
          rw [this]
          simp

theorem takeNodes_count : ∀ (l : List Nod) (i : Nat) (tk tk' : List Bool), i + l.length ≤ tk.length → takeNodes i l tk = some tk' →
    (∀ (j : Nat) n, l[j]? = some n → fits n n.kids.length = true ∧ ∀ k ∈ n.kids, 0 ≤ k ∧ k < ((i + j : Nat) : Int)) ∧
      ∀ j : Nat, (tk'.getD j false).toNat = (tk.getD j false).toNat + (allKids l).count (j : Int)
  | [], i, tk, tk', _, h => by simp [takeNodes] at h; subst h; simp [allKids]
  | n :: l, i, tk, tk', hi, h => by
    unfold takeNodes at h
    split at h
    · rename_i hf
      obtain ⟨t1, ht1, h⟩ := Option.bind_eq_some_iff.1 h
      simp only [List.length_cons] at hi
      obtain ⟨a1, a2⟩ := takeKids_count i n.kids tk t1 (by omega) ht1
      have hl := takeKids_len i _ _ _ ht1
      obtain ⟨b1, b2⟩ := takeNodes_count l (i + 1) t1 tk' (by omega) h
      refine ⟨fun j m hj => ?_, fun j => ?_⟩
      · cases j with
        | zero =>
          simp at hj
          subst hj
          exact ⟨hf, fun k hk => by have := a1 k hk; omega⟩
        | succ j =>
          simp at hj
          refine ⟨(b1 j m hj).1, fun k hk => ?_⟩
          have := (b1 j m hj).2 k hk
          omega
      · rw [b2 j, a2 j]
        simp only [allKids, List.flatMap_cons, List.count_append]
        omega
    · cases h

/-- what `right` says of a tree -/
structure RightT (t : Tre) : Prop where
  root : 0 ≤ t.root ∧ t.root < t.nodes.length
  fits : ∀ (i : Nat) n, t.nodes[i]? = some n → fits n n.kids.length = true
  kok : KOk t.nodes
  count : ∀ i : Nat, i < t.nodes.length → (allKids t.nodes).count (i : Int) = if (i : Int) = t.root then 0 else 1

theorem rightP_spec {t : Tre} (h : rightP t = true) : RightT t := by
  unfold rightP at h
  simp only [Bool.and_eq_true, decide_eq_true_eq] at h
  obtain ⟨⟨h1, h2⟩, h3⟩ := h
  split at h3
  · cases h3
  · rename_i tk htk
    obtain ⟨a, b⟩ := takeNodes_count t.nodes 0 _ _ (by simp) htk
    refine ⟨⟨h1, h2⟩, fun i n hi => (a i n hi).1, fun i n hi k hk => ?_, fun i hi => ?_⟩
    · have := (a i n hi).2 k hk
      omega
    · have hb := b i
      rw [List.all_eq_true] at h3
      have hc := h3 i (by simpa using hi)
      rw [show (List.replicate t.nodes.length false).getD i false = false by simp [List.getD_eq_getElem?_getD, List.getElem?_replicate]; split <;> rfl] at hb
      by_cases hr : (i : Int) = t.root
      · rw [if_pos hr]
        simp only [hr, decide_true] at hc
        cases hv : tk.getD i false with
        | false => rw [hv] at hb; simp at hb; omega
        | true => rw [hv] at hc; simp at hc
      · rw [if_neg hr]
        simp only [hr, decide_false] at hc
        cases hv : tk.getD i false with
        | false => rw [hv] at hc; simp at hc
        | true => rw [hv] at hb; simp at hb; omega

/-! ### the kids of a number -/
def chOf (ns : List Nod) (k : Int) : List Int := if k < 0 then [] else kidsOf ns k
theorem KOk.chOf {ns : List Nod} (h : KOk ns) : ChOk (chOf ns) := h.ch
theorem chOf_get {ns : List Nod} {i : Nat} {n : Nod} (h : ns[i]? = some n) : n.kids = chOf ns i := by
  have : ¬ ((i : Int) < 0) := by omega
  simp [chOf, kidsOf, h, this]
theorem chOf_none {ns : List Nod} {k : Int} (h : (ns.length : Int) ≤ k) : chOf ns k = [] := by
  unfold chOf kidsOf
  split
  · rfl
  · rw [List.getElem?_eq_none (by omega)]
theorem range_flatMap {ns : List Nod} : ((List.range ns.length).map Int.ofNat).flatMap (chOf ns) = allKids ns := by
  unfold allKids
  rw [List.flatMap_def, List.flatMap_def, List.map_map]
  congr 1
  apply List.ext_getElem?
  intro i
  rw [List.getElem?_map, List.getElem?_map]
  by_cases hi : i < ns.length
  · rw [List.getElem?_range hi, List.getElem?_eq_getElem hi]
    simp only [Option.map_some, Function.comp]
    exact congrArg some (chOf_get (List.getElem?_eq_getElem hi)).symm
  · rw [List.getElem?_eq_none (by simpa using hi), List.getElem?_eq_none (by simpa using hi)]
    rfl

/-! ### rows -/
theorem dfs_count {ch : Int → List Int} (hc : ChOk ch) (x : Int) : ∀ (f : Nat) (l : List Int), (∀ k ∈ l, 0 ≤ k ∧ k < f) → (dfs ch f l).count x = l.count x + ((dfs ch f l).flatMap ch).count x
  | 0, l, h => by
    cases l with
    | nil => simp [dfs]
    | cons k l => have := h k (by simp); omega
  | f + 1, l, h => by
    induction l with
    | nil => simp [dfs]
    | cons k l ih =>
      have ih := ih (fun y hy => h y (by simp [hy]))
      have hk := h k (by simp)
      have h2 := dfs_count hc x f (ch k) (fun y hy => ⟨(hc k y hy).1, by have := (hc k y hy).2; omega⟩)
      simp only [dfs, List.flatMap_cons, List.count_append, List.count_cons, List.flatMap_append] at ih h2 ⊢
      omega

theorem dfs_mem {ch : Int → List Int} (hc : ChOk ch) : ∀ (f : Nat) (l : List Int), (∀ k ∈ l, 0 ≤ k ∧ k < f) → ∀ x ∈ dfs ch f l, 0 ≤ x ∧ x < f
  | 0, l, h, x, hx => by simp [dfs] at hx
  | f + 1, l, h, x, hx => by
    simp only [dfs, List.mem_flatMap, List.mem_cons] at hx
    obtain ⟨k, hk, rfl | hx⟩ := hx
    · exact h x hk
    · have hk := h k hk
      have := dfs_mem hc f (ch k) (fun y hy => ⟨(hc k y hy).1, by have := (hc k y hy).2; omega⟩) x hx
      omega

theorem sub_dfs {ch : Int → List Int} (f : Nat) (l : List Int) (hf : 0 < f) : l.Sublist (dfs ch f l) := by
  cases f with
  | zero => omega
  | succ f =>
    induction l with
    | nil => simp
    | cons k l ih =>
      simp only [dfs, List.flatMap_cons] at ih ⊢
      exact List.Sublist.cons_cons k (ih.trans (List.sublist_append_right _ _))

/-- a node and its kids stand in the row, in that order -/
theorem dfs_sub {ch : Int → List Int} (hc : ChOk ch) : ∀ (f : Nat) (l : List Int), (∀ k ∈ l, 0 ≤ k ∧ k < f) → ∀ y ∈ dfs ch f l, (y :: ch y).Sublist (dfs ch f l)
  | 0, l, h, y, hy => by simp [dfs] at hy
  | f + 1, l, h, y, hy => by
    simp only [dfs, List.mem_flatMap, List.mem_cons] at hy
    obtain ⟨k, hk, hy⟩ := hy
    have hkf := h k hk
    have hin : (k :: dfs ch f (ch k)).Sublist (dfs ch (f + 1) l) := by
      obtain ⟨a, b, rfl⟩ := List.append_of_mem hk
      simp only [dfs, List.flatMap_append, List.flatMap_cons]
      exact (List.sublist_append_left _ _).trans (List.sublist_append_right _ _)
    refine List.Sublist.trans ?_ hin
    rcases hy with rfl | hy
    · by_cases hf : 0 < f
      · exact List.Sublist.cons_cons y (sub_dfs f _ hf)
      · have : ch y = [] := by
          cases hy : ch y with
          | nil => rfl
          | cons z l => have := hc y z (by rw [hy]; simp); omega
        rw [this]
        simp
    · exact (dfs_sub hc f (ch k) (fun z hz => ⟨(hc k z hz).1, by have := (hc k z hz).2; omega⟩) y hy).cons k

/-- P4.2: the row of a right tree -/
def rowP (t : Tre) : List Int := dfs (chOf t.nodes) t.nodes.length [t.root]

theorem count_ints (N : Nat) (x : Int) : ((List.range N).map Int.ofNat).count x = if 0 ≤ x ∧ x < N then 1 else 0 := by
  have hnd : ((List.range N).map Int.ofNat).Nodup := by
    refine List.Pairwise.map _ (fun a b (h : a ≠ b) => ?_) List.nodup_range
    exact fun e => h (Int.ofNat.inj e)
  by_cases h : 0 ≤ x ∧ x < N
  · rw [if_pos h, hnd.count, if_pos]
    refine List.mem_map.2 ⟨x.toNat, List.mem_range.2 (by omega), ?_⟩
    show ((x.toNat : Nat) : Int) = x
    omega
  · rw [if_neg h]
    refine List.count_eq_zero.2 fun hm => h ?_
    obtain ⟨y, hy, rfl⟩ := List.mem_map.1 hm
    have := List.mem_range.1 hy
    exact ⟨Int.natCast_nonneg y, by show ((y : Nat) : Int) < N; omega⟩

theorem row_count {t : Tre} (h : RightT t) : ∀ (d : Nat) (x : Int), 0 ≤ x → x < t.nodes.length → t.nodes.length ≤ x.toNat + d → (rowP t).count x = 1
  | 0, x, h0, h1, h2 => by omega
  | d + 1, x, h0, h1, h2 => by
    have hc := h.kok.chOf
    have hl : ∀ k ∈ [t.root], 0 ≤ k ∧ k < (t.nodes.length : Int) := by
      intro k hk
      simp at hk
      subst hk
      exact h.root
    have e := dfs_count hc x t.nodes.length [t.root] hl
    have hf : ∀ D : List Int, (D.flatMap (chOf t.nodes)).count x = ((D.filter (fun y => decide (x < y))).flatMap (chOf t.nodes)).count x := by
      intro D
      induction D with
      | nil => rfl
      | cons y D ih =>
        rw [List.flatMap_cons, List.count_append, ih, List.filter_cons]
        by_cases hy : x < y
        · simp [hy]
        · simp only [hy, decide_false, Bool.false_eq_true, if_false]
          have : (chOf t.nodes y).count x = 0 := List.count_eq_zero.2 fun hm => by have := (hc y x hm).2; omega
          omega
    have hp : ((dfs (chOf t.nodes) t.nodes.length [t.root]).filter (fun y => decide (x < y))).Perm (((List.range t.nodes.length).map Int.ofNat).filter (fun y => decide (x < y))) := by
      rw [List.perm_iff_count]
      intro y
      by_cases hy : x < y
      · rw [List.count_filter (by simpa using hy), List.count_filter (by simpa using hy), count_ints]
        by_cases hn : y < t.nodes.length
        · rw [if_pos ⟨by omega, hn⟩]
          exact row_count h d y (by omega) hn (by omega)
        · rw [if_neg (by omega)]
          exact List.count_eq_zero.2 fun hm => hn (dfs_mem hc _ _ hl y hm).2
      · rw [List.count_eq_zero.2 (fun hm => by have := (List.mem_filter.1 hm).2; simp at this; omega), List.count_eq_zero.2 (fun hm => by have := (List.mem_filter.1 hm).2; simp at this; omega)]
    have e2 := (hp.flatMap_right (chOf t.nodes)).count_eq x
    rw [← hf, ← hf, range_flatMap] at e2
    have e3 := h.count x.toNat (by omega)
    rw [show ((x.toNat : Nat) : Int) = x by omega] at e3
    unfold rowP
    rw [e, e2, e3, List.count_cons, List.count_nil]
    by_cases hr : x = t.root
    · subst hr; simp
    · have : (t.root == x) = false := by simp; omega
      simp [hr, this]

structure RowOk (t : Tre) (row : List Int) : Prop where
  len : row.length = t.nodes.length
  head : row.head? = some t.root
  nodup : row.Nodup
  mem : ∀ x, x ∈ row ↔ 0 ≤ x ∧ x < t.nodes.length
  kids : ∀ (i : Nat) n, t.nodes[i]? = some n → ((i : Int) :: n.kids).Sublist row

theorem row_ok {t : Tre} (h : RightT t) : RowOk t (rowP t) := by
  have hc := h.kok.chOf
  have hl : ∀ k ∈ [t.root], 0 ≤ k ∧ k < (t.nodes.length : Int) := by
    intro k hk
    simp at hk
    subst hk
    exact h.root
  have hmem : ∀ x, x ∈ rowP t ↔ 0 ≤ x ∧ x < t.nodes.length := by
    intro x
    refine ⟨fun hx => dfs_mem hc _ _ hl x hx, fun hx => ?_⟩
    have := row_count h t.nodes.length x hx.1 hx.2 (by omega)
    exact List.count_pos_iff.1 (by omega)
  have hp : (rowP t).Perm ((List.range t.nodes.length).map Int.ofNat) := by
    rw [List.perm_iff_count]
    intro y
    rw [count_ints]
    by_cases hy : 0 ≤ y ∧ y < t.nodes.length
    · rw [if_pos hy]
      exact row_count h t.nodes.length y hy.1 hy.2 (by omega)
    · rw [if_neg hy]
      exact List.count_eq_zero.2 fun hm => hy ((hmem y).1 hm)
  refine ⟨by rw [hp.length_eq]; simp, ?_, ?_, hmem, fun i n hn => ?_⟩
  · unfold rowP
    rw [dfs_cons hc h.root.1 h.root.2]
    rfl
  · rw [hp.nodup_iff]
    refine List.Pairwise.map _ (fun a b (h : a ≠ b) => ?_) List.nodup_range
    exact fun e => h (Int.ofNat.inj e)
  · have hi := (List.getElem?_eq_some_iff.1 hn).1
    rw [chOf_get hn]
    exact dfs_sub hc _ _ hl i ((hmem i).2 ⟨by omega, by omega⟩)
end Go.Bonsai
