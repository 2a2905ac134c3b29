/-
  What the layer's makers come to, as plain functions.
-/
import Derived.Test.YtlhkkngpppcfoaaDoorRow
set_option linter.all false
namespace Go.Bonsai

/-- the numbers of what stands at a node, each behind what is within it -/
def behindP (t : Tre) (node : Int) : List Int := dfsP (chOf t.nodes) t.nodes.length [node]
/-- nodes taken out one by one; place: where each number went -/
def takenGo (ns : List Nod) : Nat → List Int → List Int → List Nod
  | _, _, [] => []
  | i, place, k :: l =>
    { ns.getD k.toNat .zero with kids := (ns.getD k.toNat .zero).kids.map fun x => (place.set k.toNat i).getD x.toNat 0 } :: takenGo ns (i + 1) (place.set k.toNat i) l
def takenP (t : Tre) (node : Int) : Tre := ⟨takenGo t.nodes 0 (List.replicate t.nodes.length 0) (behindP t node), (behindP t node).length - 1⟩
def movedP (ns : List Nod) (by_ : Int) : List Nod := ns.map fun n => { n with kids := n.kids.map (· + by_) }
def ofGo : List Tre → List Nod → List Int → Option (List Nod × List Int)
  | [], a, l => some (a, l)
  | k :: ks, a, l => if rightP k = true then ofGo ks (a ++ movedP (takenP k k.root).nodes a.length) (l ++ [((a.length + (takenP k k.root).nodes.length : Nat) : Int) - 1]) else none
def ofP (n : Nod) (kids : List Tre) : Tre × Bool :=
  if fits n kids.length = true then match ofGo kids [] [] with
    | some (a, l) => (⟨a ++ [{ n with kids := l }], a.length⟩, true)
    | none => (.zero, false)
  else (.zero, false)
def cleanP (t : Tre) : Tre := if rightP t = true then takenP t t.root else .zero
def sameP (a b : Tre) : Bool := decide (a.nodes.length = b.nodes.length) && rightP a && rightP b && decide ((takenP a a.root).nodes = (takenP b b.root).nodes)
def sizeP (t : Tre) : Int := if rightP t = true then t.nodes.length else 0
def deepKids (deep : List Int) (d : Int) : List Int → Int
  | [] => d
  | k :: l => deepKids deep (max d (deep.getD k.toNat 0)) l
def deepGo : List Nod → List Int → List Int
  | [], deep => deep
  | n :: l, deep => deepGo l (deep ++ [deepKids deep 0 n.kids + 1])
def depthP (t : Tre) : Int := if rightP t = true then (deepGo t.nodes []).getD t.root.toNat 0 else 0
def mayP (t : Tre) : Bool := decide (t.nodes.length ≤ 1024) && rightP t && decide (depthP t ≤ 32)
def walkP (t : Tre) : List Int := if rightP t = true then rowP t else []
def leafP (n : Nod) : Tre := ⟨[n], 0⟩
def emptyN : Nod := ⟨0, .zero, ⟨#[]⟩, 0, 0, []⟩
def notN : Nod := ⟨8, .zero, ⟨#[]⟩, 0, 0, []⟩
def notsP : Nat → Tre
  | 0 => leafP emptyN
  | k + 1 => (ofP notN [notsP k]).1

/-! ### sizes -/
theorem dfsP_count (ch : Int → List Int) : ∀ (f : Nat) (l : List Int) (x : Int), (dfsP ch f l).count x = (dfs ch f l).count x
  | 0, l, x => rfl
  | f + 1, l, x => by
    induction l with
    | nil => rfl
    | cons k l ih =>
      simp only [dfs, dfsP, List.flatMap_cons, List.count_append, List.count_cons, List.count_nil] at ih ⊢
      have := dfsP_count ch f (ch k) x
      omega
theorem dfsP_perm (ch : Int → List Int) (f : Nat) (l : List Int) : (dfsP ch f l).Perm (dfs ch f l) := List.perm_iff_count.2 (dfsP_count ch f l)
theorem takenGo_length (ns : List Nod) : ∀ (l : List Int) (i : Nat) (pl : List Int), (takenGo ns i pl l).length = l.length
  | [], _, _ => rfl
  | k :: l, i, pl => by simp [takenGo, takenGo_length ns l]

/-- what stands at a node stands in the row -/
theorem dfs_len_le {ch : Int → List Int} (hc : ChOk ch) (f : Nat) : ∀ (m : Nat) (l : List Int), (∀ k ∈ l, 0 ≤ k ∧ k < m) → m ≤ f → ∀ y ∈ dfs ch f l, (dfs ch f [y]).length ≤ (dfs ch f l).length
  | 0, l, h, hf, y, hy => by
    cases l with
    | nil => rw [dfs_nil] at hy; cases hy
    | cons k l => have := h k (by simp); omega
  | m + 1, l, h, hf, y, hy => by
    induction l with
    | nil => rw [dfs_nil] at hy; cases hy
    | cons k l ih =>
      have hk := h k (by simp)
      rw [dfs_cons hc hk.1 (by omega)] at hy ⊢
      have ih := ih (fun z hz => h z (by simp [hz]))
      simp only [List.length_cons, List.length_append]
      rcases List.mem_cons.1 hy with rfl | hy
      · rw [dfs_cons hc hk.1 (by omega), dfs_nil]
        simp
      · rcases List.mem_append.1 hy with hy | hy
        · have := dfs_len_le hc f m (ch k) (fun z hz => ⟨(hc k z hz).1, by have := (hc k z hz).2; omega⟩) (by omega) y hy
          omega
        · have := ih hy
          omega
theorem at_len {t : Tre} (h : RightT t) {node : Int} (h0 : 0 ≤ node) (hn : node < t.nodes.length) : (dfs (chOf t.nodes) t.nodes.length [node]).length ≤ t.nodes.length := by
  have hr := row_ok h
  have := dfs_len_le h.kok.chOf t.nodes.length t.nodes.length [t.root] (by intro k hk; simp at hk; subst hk; exact h.root) (Nat.le_refl _) node ((hr.mem node).2 ⟨h0, hn⟩)
  have e : (dfs (chOf t.nodes) t.nodes.length [t.root]).length = t.nodes.length := hr.len
  omega
theorem behind_len {t : Tre} (h : RightT t) {node : Int} (h0 : 0 ≤ node) (hn : node < t.nodes.length) : (behindP t node).length ≤ t.nodes.length := by
  rw [behindP, (dfsP_perm _ _ _).length_eq]
  exact at_len h h0 hn
theorem behind_mem {t : Tre} (h : RightT t) {node : Int} (h0 : 0 ≤ node) (hn : node < t.nodes.length) : ∀ x ∈ behindP t node, 0 ≤ x ∧ x < t.nodes.length := by
  intro x hx
  rw [behindP, (dfsP_perm _ _ _).mem_iff] at hx
  exact dfs_mem h.kok.chOf _ _ (by intro k hk; simp at hk; subst hk; exact ⟨h0, hn⟩) x hx
theorem behind_pos {t : Tre} (h : RightT t) {node : Int} (h0 : 0 ≤ node) (hn : node < t.nodes.length) : 0 < (behindP t node).length := by
  rw [behindP, (dfsP_perm _ _ _).length_eq, dfs_cons h.kok.chOf h0 hn]
  simp
end Go.Bonsai
