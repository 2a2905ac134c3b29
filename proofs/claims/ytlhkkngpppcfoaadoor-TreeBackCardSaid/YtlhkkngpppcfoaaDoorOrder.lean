/-
  Rows of what stands within nodes: ahead of the kids, and behind them.
-/
import Derived.Test.YtlhkkngpppcfoaaDoorTreePure
set_option linter.all false
namespace Go.Bonsai

def kidsOf (ns : List Nod) (k : Int) : List Int := match ns[k.toNat]? with
  | some n => n.kids
  | none => []
/-- kids stand ahead -/
def ChOk (ch : Int → List Int) : Prop := ∀ k, ∀ x ∈ ch k, 0 ≤ x ∧ x < k
/-- each ahead of what is within -/
def dfs (ch : Int → List Int) : Nat → List Int → List Int
  | 0, _ => []
  | f + 1, l => l.flatMap fun k => k :: dfs ch f (ch k)
/-- each behind what is within -/
def dfsP (ch : Int → List Int) : Nat → List Int → List Int
  | 0, _ => []
  | f + 1, l => l.flatMap fun k => dfsP ch f (ch k) ++ [k]
def revC (ch : Int → List Int) (k : Int) : List Int := (ch k).reverse

theorem dfs_nil (ch : Int → List Int) (f : Nat) : dfs ch f [] = [] := by cases f <;> rfl
theorem dfsP_nil (ch : Int → List Int) (f : Nat) : dfsP ch f [] = [] := by cases f <;> rfl
theorem dfs_append (ch : Int → List Int) (f : Nat) (l m : List Int) : dfs ch f (l ++ m) = dfs ch f l ++ dfs ch f m := by cases f <;> simp [dfs]
theorem dfsP_append (ch : Int → List Int) (f : Nat) (l m : List Int) : dfsP ch f (l ++ m) = dfsP ch f l ++ dfsP ch f m := by cases f <;> simp [dfsP]
theorem ChOk.rev {ch : Int → List Int} (h : ChOk ch) : ChOk (revC ch) := fun k x hx => h k x (by simpa [revC] using hx)

theorem dfs_fuel {ch : Int → List Int} (h : ChOk ch) : ∀ (f g : Nat) (l : List Int), (∀ k ∈ l, 0 ≤ k ∧ k < f) → (∀ k ∈ l, k < g) → dfs ch f l = dfs ch g l
  | 0, g, l, hf, hg => by
    cases l with
    | nil => rw [dfs_nil, dfs_nil]
    | cons k l => have := hf k (by simp); omega
  | f + 1, 0, l, hf, hg => by
    cases l with
    | nil => rw [dfs_nil, dfs_nil]
    | cons k l =>
      have := hf k (by simp)
      have := hg k (by simp)
      omega
  | f + 1, g + 1, l, hf, hg => by
    show l.flatMap _ = l.flatMap _
    rw [List.flatMap_def, List.flatMap_def]
    congr 1
    apply List.map_congr_left
    intro k hk
    have h1 := hf k hk
    have h2 := hg k hk
    rw [dfs_fuel h f g (ch k) (fun x hx => ⟨(h k x hx).1, by have := (h k x hx).2; omega⟩) (fun x hx => by have := (h k x hx).2; omega)]

/-- one node, and what is within -/
theorem dfs_cons {ch : Int → List Int} (h : ChOk ch) {f : Nat} {k : Int} {l : List Int} (h0 : 0 ≤ k) (hk : k < f) : dfs ch f (k :: l) = k :: (dfs ch f (ch k) ++ dfs ch f l) := by
  cases f with
  | zero => omega
  | succ f =>
    have e : dfs ch f (ch k) = dfs ch (f + 1) (ch k) := dfs_fuel h f (f + 1) (ch k) (fun x hx => ⟨(h k x hx).1, by have := (h k x hx).2; omega⟩) (fun x hx => by have := (h k x hx).2; omega)
    rw [← e]
    simp [dfs]

theorem dfs_rev (ch : Int → List Int) : ∀ (f : Nat) (l : List Int), (dfs (revC ch) f l.reverse).reverse = dfsP ch f l
  | 0, l => rfl
  | f + 1, l => by
    induction l with
    | nil => rfl
    | cons k l ih =>
      rw [List.reverse_cons, dfs_append, List.reverse_append, ih]
      have h1 := dfs_rev ch f (ch k)
      simp only [dfs, dfsP, List.flatMap_cons, List.flatMap_nil, List.append_nil, List.reverse_cons]
      rw [show revC ch k = (ch k).reverse from rfl, h1]

theorem dfs_length_ge {ch : Int → List Int} (f : Nat) (l : List Int) (hf : 0 < f) : l.length ≤ (dfs ch f l).length := by
  cases f with
  | zero => omega
  | succ f =>
    induction l with
    | nil => simp
    | cons k l ih =>
      simp only [dfs, List.flatMap_cons, List.length_append, List.length_cons] at ih ⊢
      omega
theorem dfs_revC_length {ch : Int → List Int} : ∀ (f : Nat) (l : List Int), (dfs (revC ch) f l).length = (dfs ch f l).length
  | 0, l => rfl
  | f + 1, l => by
    induction l with
    | nil => rfl
    | cons k l ih =>
      simp only [dfs, List.flatMap_cons, List.length_append, List.length_cons] at ih ⊢
      have h1 := dfs_revC_length (ch := ch) f (revC ch k)
      have h2 : ∀ (f : Nat) (m : List Int), (dfs ch f m.reverse).length = (dfs ch f m).length := by
        intro f m
        induction m with
        | nil => rfl
        | cons x m ihm => rw [List.reverse_cons, dfs_append, List.length_append, ihm, show x :: m = [x] ++ m from rfl, dfs_append, List.length_append]; omega
      rw [h1, show revC ch k = (ch k).reverse from rfl, h2, ih]
end Go.Bonsai
namespace Go.Bonsai
theorem list_snoc {α : Type} (l : List α) : l = [] ∨ ∃ init x, l = init ++ [x] := by
  rcases List.eq_nil_or_concat l with h | ⟨a, b, h⟩
  · exact .inl h
  · exact .inr ⟨a, b, by rw [h, List.concat_eq_append]⟩
/-- each node's kids stand ahead of it -/
def KOk (ns : List Nod) : Prop := ∀ (i : Nat) n, ns[i]? = some n → ∀ k ∈ n.kids, 0 ≤ k ∧ k < i
theorem KOk.ch {ns : List Nod} (h : KOk ns) : ChOk (fun k => if k < 0 then [] else kidsOf ns k) := by
  intro k x hx
  by_cases h0 : k < 0
  · simp [h0] at hx
  · simp only [h0, if_false, kidsOf] at hx
    cases hn : ns[k.toNat]? with
    | none => simp [hn] at hx
    | some n =>
      simp only [hn] at hx
      have := h _ _ hn x hx
      omega
end Go.Bonsai
