/-
  Names, trees in arenas, rows of what stands within nodes, what is put together, forests: plain functions and plain facts, no program in sight.
-/
import Derived.WalkKit
set_option linter.all false
namespace Go.Bonsai

def digitB (b : Int) : Bool := decide (48 ≤ b) && decide (b ≤ 57)
def letterB (b : Int) : Bool := (decide (97 ≤ b) && decide (b ≤ 122)) || (decide (65 ≤ b) && decide (b ≤ 90)) || decide (b = 95)
def goodB (b : UInt8) : Bool := letterB b.toNat || digitB b.toNat
/-- how many letters and digits stand ahead -/
def runN (l : List UInt8) : Nat := (l.takeWhile goodB).length
/-- a text begins with a letter -/
def headB : List UInt8 → Bool
  | [] => false
  | b :: _ => letterB b.toNat
def takeB (s : ByteArray) : ByteArray := if headB s.data.toList then s.extract 0 (runN s.data.toList) else ⟨#[]⟩
def mayB (s : ByteArray) : Bool := decide (s.size ≤ 32) && headB s.data.toList && s.data.toList.all goodB

theorem runN_le (l : List UInt8) : runN l ≤ l.length := by
  unfold runN
  exact List.Sublist.length_le (List.takeWhile_sublist _)
theorem runN_spec : ∀ (l : List UInt8) (k : Nat), k ≤ l.length → (∀ j b, j < k → l[j]? = some b → goodB b = true) → (∀ b, l[k]? = some b → goodB b = false) → k = runN l
  | [], k, hk, _, _ => by simp at hk; subst hk; rfl
  | c :: l, 0, _, _, h2 => by
    have := h2 c (by simp)
    simp [runN, List.takeWhile, this]
  | c :: l, k + 1, hk, h1, h2 => by
    have hc := h1 0 c (by omega) (by simp)
    have ih := runN_spec l k (by simpa using hk) (fun j b hj hb => h1 (j + 1) b (by omega) (by simpa using hb)) (fun b hb => h2 b (by simpa using hb))
    simp only [runN, List.takeWhile_cons, hc, if_true, List.length_cons]
    simp only [runN] at ih
    omega
theorem runN_all (l : List UInt8) : (runN l = l.length) ↔ l.all goodB = true := by
  induction l with
  | nil => simp [runN]
  | cons c l ih =>
    unfold runN at *
    rw [List.takeWhile_cons]
    by_cases hc : goodB c = true
    · simp [hc]
      simpa using ih
    · simp [hc]
theorem size_takeB (s : ByteArray) : (takeB s).size = if headB s.data.toList then runN s.data.toList else 0 := by
  unfold takeB
  have := runN_le s.data.toList
  have hs : s.data.toList.length = s.size := Array.length_toList
  split
  · rw [ByteArray.size_extract]; omega
  · rfl
theorem takeB_size_le (s : ByteArray) : (takeB s).size ≤ s.size := by
  rw [size_takeB]
  have := runN_le s.data.toList
  have hs : s.data.toList.length = s.size := Array.length_toList
  split <;> omega
theorem takeB_full (s : ByteArray) (h : (takeB s).size = s.size) (hs : s ≠ ⟨#[]⟩) : takeB s = s := by
  rw [size_takeB] at h
  have hs' : s.data.toList.length = s.size := Array.length_toList
  unfold takeB
  split at h
  · rename_i hh
    rw [if_pos hh, h]
    apply ByteArray.ext
    simp
  · exact absurd (ByteArray.ext (Array.eq_empty_of_size_eq_zero h.symm)) hs
theorem mayB_eq (s : ByteArray) : mayB s = (!decide (s = ⟨#[]⟩) && decide (s.size ≤ 32) && decide ((takeB s).size = s.size)) := by
  unfold mayB
  have hs : s.data.toList.length = s.size := Array.length_toList
  rw [size_takeB]
  by_cases he : s = ⟨#[]⟩
  · subst he; simp [headB]
  · have hne : s.size ≠ 0 := fun h => he (ByteArray.ext (Array.eq_empty_of_size_eq_zero h))
    cases hh : headB s.data.toList with
    | false =>
      have : ¬ (0 = s.size) := by omega
      simp [he, this]
    | true =>
      have := runN_all s.data.toList
      rw [hs] at this
      by_cases hb : s.data.toList.all goodB = true
      · simp only [this.2 hb, hb, he]; simp
      · have h2 : ¬ (runN s.data.toList = s.size) := fun h => hb (this.1 h)
        have hb' : s.data.toList.all goodB = false := by simpa using hb
        rw [hb']
        simp [h2]
theorem mayB_eq' (s : ByteArray) : mayB s = (!decide (s = ⟨#[]⟩) && decide (s.size ≤ 32) && decide (takeB s = s)) := by
  rw [mayB_eq]
  by_cases he : s = ⟨#[]⟩
  · simp [he]
  · congr 1
    rw [decide_eq_decide]
    exact ⟨fun h => takeB_full s h he, fun h => by rw [h]⟩
theorem mayB_int (s : ByteArray) : mayB s = (!decide (s = ⟨#[]⟩) && decide ((s.size : Int) ≤ 32) && decide (((takeB s).size : Int) = (s.size : Int))) := by
  rw [mayB_eq]
  congr 1
  · congr 1
    rw [decide_eq_decide]
    omega
  · rw [decide_eq_decide]
    omega
theorem mayB_int' (s : ByteArray) : mayB s = (!decide (s = ⟨#[]⟩) && decide ((s.size : Int) ≤ 32) && decide (takeB s = s)) := by
  rw [mayB_eq']
  congr 2
  rw [decide_eq_decide]
  omega
end Go.Bonsai
namespace Go.Bonsai

structure Bts where
  a : Int
  b : Int
  c : Int
  d : Int
deriving DecidableEq

structure Nod where
  kind : Int
  set : Bts
  text : ByteArray
  min : Int
  max : Int
  kids : List Int
deriving DecidableEq

structure Tre where
  nodes : List Nod
  root : Int
deriving DecidableEq

def Bts.zero : Bts := ⟨0, 0, 0, 0⟩
def Nod.zero : Nod := ⟨0, .zero, ⟨#[]⟩, 0, 0, []⟩
def Tre.zero : Tre := ⟨[], 0⟩

/-- least and greatest number of kids, by kind -/
def counts : List (Int × Int) := [(0, 0), (0, 0), (0, 0), (0, 0), (2, -1), (2, -1), (1, 1), (1, 1), (1, 1), (1, 1)]

/-- P4.1: a node is as its kind says -/
def fits (n : Nod) (kids : Int) : Bool :=
  if n.kind = 0 then decide (n.set = .zero) && decide (n.text = ⟨#[]⟩) && decide (n.min = 0) && decide (n.max = 0) && decide (kids = 0)
  else if n.kind = 1 then decide (n.text = ⟨#[]⟩) && decide (n.min = 0) && decide (n.max = 0) && decide (kids = 0)
  else if n.kind = 2 then decide (n.set = .zero) && decide (n.min = 0) && decide (n.max = 0) && decide (kids = 0) && !decide (n.text = ⟨#[]⟩) && decide ((n.text.size : Int) ≤ 255)
  else if n.kind = 3 then decide (n.set = .zero) && decide (n.min = 0) && decide (n.max = 0) && decide (kids = 0) && mayB n.text
  else if n.kind = 4 ∨ n.kind = 5 then decide (n.set = .zero) && decide (n.text = ⟨#[]⟩) && decide (n.min = 0) && decide (n.max = 0) && decide (2 ≤ kids)
  else if n.kind = 6 then decide (n.set = .zero) && decide (n.text = ⟨#[]⟩) && decide (kids = 1) && decide (0 ≤ n.min) && decide (n.min ≤ 99) && (decide (n.max = -1) || decide (n.min ≤ n.max) && decide (n.max ≤ 99))
  else if n.kind = 7 ∨ n.kind = 8 then decide (n.set = .zero) && decide (n.text = ⟨#[]⟩) && decide (n.min = 0) && decide (n.max = 0) && decide (kids = 1)
  else if n.kind = 9 then decide (n.set = .zero) && decide (n.min = 0) && decide (n.max = 0) && decide (kids = 1) && mayB n.text
  else false

/-- all kids' numbers, in the arena's order -/
def allKids (l : List Nod) : List Int := l.flatMap (·.kids)
/-- node number i, behind the first i ones -/
def nodeOk (i : Nat) (n : Nod) : Bool := fits n n.kids.length && n.kids.all fun k => decide (0 ≤ k) && decide (k < i)
def nodesOk : Nat → List Nod → Bool
  | _, [] => true
  | i, n :: l => nodeOk i n && nodesOk (i + 1) l
/-- P4.1 -/
def right (t : Tre) : Bool :=
  decide (0 ≤ t.root) && decide (t.root < t.nodes.length) && nodesOk 0 t.nodes &&
    (List.range t.nodes.length).all fun i => decide ((allKids t.nodes).count (i : Int) = if (i : Int) = t.root then 0 else 1)
end Go.Bonsai
namespace Go.Bonsai
def takeKids (i : Int) : List Int → List Bool → Option (List Bool)
  | [], tk => some tk
  | k :: l, tk => if k < 0 ∨ i ≤ k ∨ tk.getD k.toNat false = true then none else takeKids i l (tk.set k.toNat true)
def takeNodes : Nat → List Nod → List Bool → Option (List Bool)
  | _, [], tk => some tk
  | i, n :: l, tk => if fits n n.kids.length = true then (takeKids i n.kids tk).bind (takeNodes (i + 1) l) else none
/-- what the code of Right comes to -/
def rightP (t : Tre) : Bool :=
  decide (0 ≤ t.root) && decide (t.root < t.nodes.length) && match takeNodes 0 t.nodes (List.replicate t.nodes.length false) with
    | none => false
    | some tk => (List.range t.nodes.length).all fun i => !(tk.getD i false == decide ((i : Int) = t.root))
theorem takeKids_len (i : Int) : ∀ (l : List Int) (tk tk' : List Bool), takeKids i l tk = some tk' → tk'.length = tk.length
  | [], tk, tk', h => by simp [takeKids] at h; rw [h]
  | k :: l, tk, tk', h => by
    unfold takeKids at h
    split at h
    · cases h
    · have := takeKids_len i l _ _ h
      simpa using this
end Go.Bonsai
namespace Go.Bonsai

def kidsOf (ns : List Nod) (k : Int) : List Int := match ns[k.toNat]? with
  | some n => n.kids
  | none => []
/-- kids stand ahead -/
def ChOk (ch : Int → List Int) : Prop := ∀ k, ∀ x ∈ ch k, 0 ≤ x ∧ x < k
/-- each ahead of what is within -/
def dfs (ch : Int → List Int) : Nat → List Int → List Int
  | 0, _ => []
  | f + 1, l => l.flatMap fun k => k :: dfs ch f (ch k)
/-- each behind what is within -/
def dfsP (ch : Int → List Int) : Nat → List Int → List Int
  | 0, _ => []
  | f + 1, l => l.flatMap fun k => dfsP ch f (ch k) ++ [k]
def revC (ch : Int → List Int) (k : Int) : List Int := (ch k).reverse

theorem dfs_nil (ch : Int → List Int) (f : Nat) : dfs ch f [] = [] := by cases f <;> rfl
theorem dfsP_nil (ch : Int → List Int) (f : Nat) : dfsP ch f [] = [] := by cases f <;> rfl
theorem dfs_append (ch : Int → List Int) (f : Nat) (l m : List Int) : dfs ch f (l ++ m) = dfs ch f l ++ dfs ch f m := by cases f <;> simp [dfs]
theorem dfsP_append (ch : Int → List Int) (f : Nat) (l m : List Int) : dfsP ch f (l ++ m) = dfsP ch f l ++ dfsP ch f m := by cases f <;> simp [dfsP]
theorem ChOk.rev {ch : Int → List Int} (h : ChOk ch) : ChOk (revC ch) := fun k x hx => h k x (by simpa [revC] using hx)

theorem dfs_fuel {ch : Int → List Int} (h : ChOk ch) : ∀ (f g : Nat) (l : List Int), (∀ k ∈ l, 0 ≤ k ∧ k < f) → (∀ k ∈ l, k < g) → dfs ch f l = dfs ch g l
  | 0, g, l, hf, hg => by
    cases l with
    | nil => rw [dfs_nil, dfs_nil]
    | cons k l => have := hf k (by simp); omega
  | f + 1, 0, l, hf, hg => by
    cases l with
    | nil => rw [dfs_nil, dfs_nil]
    | cons k l =>
      have := hf k (by simp)
      have := hg k (by simp)
      omega
  | f + 1, g + 1, l, hf, hg => by
    show l.flatMap _ = l.flatMap _
    rw [List.flatMap_def, List.flatMap_def]
    congr 1
    apply List.map_congr_left
    intro k hk
    have h1 := hf k hk
    have h2 := hg k hk
    rw [dfs_fuel h f g (ch k) (fun x hx => ⟨(h k x hx).1, by have := (h k x hx).2; omega⟩) (fun x hx => by have := (h k x hx).2; omega)]

/-- one node, and what is within -/
theorem dfs_cons {ch : Int → List Int} (h : ChOk ch) {f : Nat} {k : Int} {l : List Int} (h0 : 0 ≤ k) (hk : k < f) : dfs ch f (k :: l) = k :: (dfs ch f (ch k) ++ dfs ch f l) := by
  cases f with
  | zero => omega
  | succ f =>
    have e : dfs ch f (ch k) = dfs ch (f + 1) (ch k) := dfs_fuel h f (f + 1) (ch k) (fun x hx => ⟨(h k x hx).1, by have := (h k x hx).2; omega⟩) (fun x hx => by have := (h k x hx).2; omega)
    rw [← e]
    simp [dfs]

theorem dfs_rev (ch : Int → List Int) : ∀ (f : Nat) (l : List Int), (dfs (revC ch) f l.reverse).reverse = dfsP ch f l
  | 0, l => rfl
  | f + 1, l => by
    induction l with
    | nil => rfl
    | cons k l ih =>
      rw [List.reverse_cons, dfs_append, List.reverse_append, ih]
      have h1 := dfs_rev ch f (ch k)
      simp only [dfs, dfsP, List.flatMap_cons, List.flatMap_nil, List.append_nil, List.reverse_cons]
      rw [show revC ch k = (ch k).reverse from rfl, h1]

theorem dfs_length_ge {ch : Int → List Int} (f : Nat) (l : List Int) (hf : 0 < f) : l.length ≤ (dfs ch f l).length := by
  cases f with
  | zero => omega
  | succ f =>
    induction l with
    | nil => simp
    | cons k l ih =>
      simp only [dfs, List.flatMap_cons, List.length_append, List.length_cons] at ih ⊢
      omega
theorem dfs_revC_length {ch : Int → List Int} : ∀ (f : Nat) (l : List Int), (dfs (revC ch) f l).length = (dfs ch f l).length
  | 0, l => rfl
  | f + 1, l => by
    induction l with
    | nil => rfl
    | cons k l ih =>
      simp only [dfs, List.flatMap_cons, List.length_append, List.length_cons] at ih ⊢
      have h1 := dfs_revC_length (ch := ch) f (revC ch k)
      have h2 : ∀ (f : Nat) (m : List Int), (dfs ch f m.reverse).length = (dfs ch f m).length := by
        intro f m
        induction m with
        | nil => rfl
        | cons x m ihm => rw [List.reverse_cons, dfs_append, List.length_append, ihm, show x :: m = [x] ++ m from rfl, dfs_append, List.length_append]; omega
      rw [h1, show revC ch k = (ch k).reverse from rfl, h2, ih]
end Go.Bonsai
namespace Go.Bonsai
theorem list_snoc {α : Type} (l : List α) : l = [] ∨ ∃ init x, l = init ++ [x] := by
  rcases List.eq_nil_or_concat l with h | ⟨a, b, h⟩
  · exact .inl h
  · exact .inr ⟨a, b, by rw [h, List.concat_eq_append]⟩
/-- each node's kids stand ahead of it -/
def KOk (ns : List Nod) : Prop := ∀ (i : Nat) n, ns[i]? = some n → ∀ k ∈ n.kids, 0 ≤ k ∧ k < i
theorem KOk.ch {ns : List Nod} (h : KOk ns) : ChOk (fun k => if k < 0 then [] else kidsOf ns k) := by
  intro k x hx
  by_cases h0 : k < 0
  · simp [h0] at hx
  · simp only [h0, if_false, kidsOf] at hx
    cases hn : ns[k.toNat]? with
    | none => simp [hn] at hx
    | some n =>
      simp only [hn] at hx
      have := h _ _ hn x hx
      omega
end Go.Bonsai
namespace Go.Bonsai

/-! ### what `right` says -/
theorem getD_set (l : List Bool) (i j : Nat) (b : Bool) (hi : i < l.length) : (l.set i b).getD j false = if i = j then b else l.getD j false := by
  simp only [List.getD_eq_getElem?_getD, List.getElem?_set]
  by_cases h : i = j
  · subst h; simp [hi]
  · simp [h]

theorem takeKids_count (i : Int) : ∀ (l : List Int) (tk tk' : List Bool), i ≤ tk.length → takeKids i l tk = some tk' →
    (∀ k ∈ l, 0 ≤ k ∧ k < i) ∧ ∀ j : Nat, (tk'.getD j false).toNat = (tk.getD j false).toNat + l.count (j : Int)
  | [], tk, tk', _, h => by simp [takeKids] at h; subst h; simp
  | k :: l, tk, tk', hi, h => by
    unfold takeKids at h
    split at h
    · cases h
    · rename_i hc
      have h0 : 0 ≤ k ∧ k < i := by omega
      have htk : tk.getD k.toNat false = false := by
        cases hh : tk.getD k.toNat false with
        | false => rfl
        | true => exact absurd (.inr (.inr hh)) hc
      obtain ⟨h1, h2⟩ := takeKids_count i l _ _ (by simpa using hi) h
      refine ⟨fun x hx => ?_, fun j => ?_⟩
      · rcases List.mem_cons.1 hx with rfl | hx
        · exact h0
        · exact h1 x hx
      · rw [h2 j, getD_set _ _ _ _ (by omega), List.count_cons]
        by_cases hj : k.toNat = j
        · subst hj
          rw [if_pos rfl, htk]
          have : (k == ((k.toNat : Nat) : Int)) = true := by simp; omega
          rw [this]
          simp; omega
        · rw [if_neg hj]
          have : (k == (j : Int)) = false := by simp; omega
          rw [this]
          simp

theorem takeNodes_count : ∀ (l : List Nod) (i : Nat) (tk tk' : List Bool), i + l.length ≤ tk.length → takeNodes i l tk = some tk' →
    (∀ (j : Nat) n, l[j]? = some n → fits n n.kids.length = true ∧ ∀ k ∈ n.kids, 0 ≤ k ∧ k < ((i + j : Nat) : Int)) ∧
      ∀ j : Nat, (tk'.getD j false).toNat = (tk.getD j false).toNat + (allKids l).count (j : Int)
  | [], i, tk, tk', _, h => by simp [takeNodes] at h; subst h; simp [allKids]
  | n :: l, i, tk, tk', hi, h => by
    unfold takeNodes at h
    split at h
    · rename_i hf
      obtain ⟨t1, ht1, h⟩ := Option.bind_eq_some_iff.1 h
      simp only [List.length_cons] at hi
      obtain ⟨a1, a2⟩ := takeKids_count i n.kids tk t1 (by omega) ht1
      have hl := takeKids_len i _ _ _ ht1
      obtain ⟨b1, b2⟩ := takeNodes_count l (i + 1) t1 tk' (by omega) h
      refine ⟨fun j m hj => ?_, fun j => ?_⟩
      · cases j with
        | zero =>
          simp at hj
          subst hj
          exact ⟨hf, fun k hk => by have := a1 k hk; omega⟩
        | succ j =>
          simp at hj
          refine ⟨(b1 j m hj).1, fun k hk => ?_⟩
          have := (b1 j m hj).2 k hk
          omega
      · rw [b2 j, a2 j]
        simp only [allKids, List.flatMap_cons, List.count_append]
        omega
    · cases h

/-- what `right` says of a tree -/
structure RightT (t : Tre) : Prop where
  root : 0 ≤ t.root ∧ t.root < t.nodes.length
  fits : ∀ (i : Nat) n, t.nodes[i]? = some n → fits n n.kids.length = true
  kok : KOk t.nodes
  count : ∀ i : Nat, i < t.nodes.length → (allKids t.nodes).count (i : Int) = if (i : Int) = t.root then 0 else 1

theorem rightP_spec {t : Tre} (h : rightP t = true) : RightT t := by
  unfold rightP at h
  simp only [Bool.and_eq_true, decide_eq_true_eq] at h
  obtain ⟨⟨h1, h2⟩, h3⟩ := h
  split at h3
  · cases h3
  · rename_i tk htk
    obtain ⟨a, b⟩ := takeNodes_count t.nodes 0 _ _ (by simp) htk
    refine ⟨⟨h1, h2⟩, fun i n hi => (a i n hi).1, fun i n hi k hk => ?_, fun i hi => ?_⟩
    · have := (a i n hi).2 k hk
      omega
    · have hb := b i
      rw [List.all_eq_true] at h3
      have hc := h3 i (by simpa using hi)
      rw [show (List.replicate t.nodes.length false).getD i false = false by simp [List.getD_eq_getElem?_getD, List.getElem?_replicate]; split <;> rfl] at hb
      by_cases hr : (i : Int) = t.root
      · rw [if_pos hr]
        simp only [hr, decide_true] at hc
        cases hv : tk.getD i false with
        | false => rw [hv] at hb; simp at hb; omega
        | true => rw [hv] at hc; simp at hc
      · rw [if_neg hr]
        simp only [hr, decide_false] at hc
        cases hv : tk.getD i false with
        | false => rw [hv] at hc; simp at hc
        | true => rw [hv] at hb; simp at hb; omega

/-! ### the kids of a number -/
def chOf (ns : List Nod) (k : Int) : List Int := if k < 0 then [] else kidsOf ns k
theorem KOk.chOf {ns : List Nod} (h : KOk ns) : ChOk (chOf ns) := h.ch
theorem chOf_get {ns : List Nod} {i : Nat} {n : Nod} (h : ns[i]? = some n) : n.kids = chOf ns i := by
  have : ¬ ((i : Int) < 0) := by omega
  simp [chOf, kidsOf, h, this]
theorem chOf_none {ns : List Nod} {k : Int} (h : (ns.length : Int) ≤ k) : chOf ns k = [] := by
  unfold chOf kidsOf
  split
  · rfl
  · rw [List.getElem?_eq_none (by omega)]
theorem range_flatMap {ns : List Nod} : ((List.range ns.length).map Int.ofNat).flatMap (chOf ns) = allKids ns := by
  unfold allKids
  rw [List.flatMap_def, List.flatMap_def, List.map_map]
  congr 1
  apply List.ext_getElem?
  intro i
  rw [List.getElem?_map, List.getElem?_map]
  by_cases hi : i < ns.length
  · rw [List.getElem?_range hi, List.getElem?_eq_getElem hi]
    simp only [Option.map_some, Function.comp]
    exact congrArg some (chOf_get (List.getElem?_eq_getElem hi)).symm
  · rw [List.getElem?_eq_none (by simpa using hi), List.getElem?_eq_none (by simpa using hi)]
    rfl

/-! ### rows -/
theorem dfs_count {ch : Int → List Int} (hc : ChOk ch) (x : Int) : ∀ (f : Nat) (l : List Int), (∀ k ∈ l, 0 ≤ k ∧ k < f) → (dfs ch f l).count x = l.count x + ((dfs ch f l).flatMap ch).count x
  | 0, l, h => by
    cases l with
    | nil => simp [dfs]
    | cons k l => have := h k (by simp); omega
  | f + 1, l, h => by
    induction l with
    | nil => simp [dfs]
    | cons k l ih =>
      have ih := ih (fun y hy => h y (by simp [hy]))
      have hk := h k (by simp)
      have h2 := dfs_count hc x f (ch k) (fun y hy => ⟨(hc k y hy).1, by have := (hc k y hy).2; omega⟩)
      simp only [dfs, List.flatMap_cons, List.count_append, List.count_cons, List.flatMap_append] at ih h2 ⊢
      omega

theorem dfs_mem {ch : Int → List Int} (hc : ChOk ch) : ∀ (f : Nat) (l : List Int), (∀ k ∈ l, 0 ≤ k ∧ k < f) → ∀ x ∈ dfs ch f l, 0 ≤ x ∧ x < f
  | 0, l, h, x, hx => by simp [dfs] at hx
  | f + 1, l, h, x, hx => by
    simp only [dfs, List.mem_flatMap, List.mem_cons] at hx
    obtain ⟨k, hk, rfl | hx⟩ := hx
    · exact h x hk
    · have hk := h k hk
      have := dfs_mem hc f (ch k) (fun y hy => ⟨(hc k y hy).1, by have := (hc k y hy).2; omega⟩) x hx
      omega

theorem sub_dfs {ch : Int → List Int} (f : Nat) (l : List Int) (hf : 0 < f) : l.Sublist (dfs ch f l) := by
  cases f with
  | zero => omega
  | succ f =>
    induction l with
    | nil => simp
    | cons k l ih =>
      simp only [dfs, List.flatMap_cons] at ih ⊢
      exact List.Sublist.cons_cons k (ih.trans (List.sublist_append_right _ _))

/-- a node and its kids stand in the row, in that order -/
theorem dfs_sub {ch : Int → List Int} (hc : ChOk ch) : ∀ (f : Nat) (l : List Int), (∀ k ∈ l, 0 ≤ k ∧ k < f) → ∀ y ∈ dfs ch f l, (y :: ch y).Sublist (dfs ch f l)
  | 0, l, h, y, hy => by simp [dfs] at hy
  | f + 1, l, h, y, hy => by
    simp only [dfs, List.mem_flatMap, List.mem_cons] at hy
    obtain ⟨k, hk, hy⟩ := hy
    have hkf := h k hk
    have hin : (k :: dfs ch f (ch k)).Sublist (dfs ch (f + 1) l) := by
      obtain ⟨a, b, rfl⟩ := List.append_of_mem hk
      simp only [dfs, List.flatMap_append, List.flatMap_cons]
      exact (List.sublist_append_left _ _).trans (List.sublist_append_right _ _)
    refine List.Sublist.trans ?_ hin
    rcases hy with rfl | hy
    · by_cases hf : 0 < f
      · exact List.Sublist.cons_cons y (sub_dfs f _ hf)
      · have : ch y = [] := by
          cases hy : ch y with
          | nil => rfl
          | cons z l => have := hc y z (by rw [hy]; simp); omega
        rw [this]
        simp
    · exact (dfs_sub hc f (ch k) (fun z hz => ⟨(hc k z hz).1, by have := (hc k z hz).2; omega⟩) y hy).cons k

/-- P4.2: the row of a right tree -/
def rowP (t : Tre) : List Int := dfs (chOf t.nodes) t.nodes.length [t.root]

theorem count_ints (N : Nat) (x : Int) : ((List.range N).map Int.ofNat).count x = if 0 ≤ x ∧ x < N then 1 else 0 := by
  have hnd : ((List.range N).map Int.ofNat).Nodup := by
    refine List.Pairwise.map _ (fun a b (h : a ≠ b) => ?_) List.nodup_range
    exact fun e => h (Int.ofNat.inj e)
  by_cases h : 0 ≤ x ∧ x < N
  · rw [if_pos h, hnd.count, if_pos]
    refine List.mem_map.2 ⟨x.toNat, List.mem_range.2 (by omega), ?_⟩
    show ((x.toNat : Nat) : Int) = x
    omega
  · rw [if_neg h]
    refine List.count_eq_zero.2 fun hm => h ?_
    obtain ⟨y, hy, rfl⟩ := List.mem_map.1 hm
    have := List.mem_range.1 hy
    exact ⟨Int.natCast_nonneg y, by show ((y : Nat) : Int) < N; omega⟩

theorem row_count {t : Tre} (h : RightT t) : ∀ (d : Nat) (x : Int), 0 ≤ x → x < t.nodes.length → t.nodes.length ≤ x.toNat + d → (rowP t).count x = 1
  | 0, x, h0, h1, h2 => by omega
  | d + 1, x, h0, h1, h2 => by
    have hc := h.kok.chOf
    have hl : ∀ k ∈ [t.root], 0 ≤ k ∧ k < (t.nodes.length : Int) := by
      intro k hk
      simp at hk
      subst hk
      exact h.root
    have e := dfs_count hc x t.nodes.length [t.root] hl
    have hf : ∀ D : List Int, (D.flatMap (chOf t.nodes)).count x = ((D.filter (fun y => decide (x < y))).flatMap (chOf t.nodes)).count x := by
      intro D
      induction D with
      | nil => rfl
      | cons y D ih =>
        rw [List.flatMap_cons, List.count_append, ih, List.filter_cons]
        by_cases hy : x < y
        · simp [hy]
        · simp only [hy, decide_false, Bool.false_eq_true, if_false]
          have : (chOf t.nodes y).count x = 0 := List.count_eq_zero.2 fun hm => by have := (hc y x hm).2; omega
          omega
    have hp : ((dfs (chOf t.nodes) t.nodes.length [t.root]).filter (fun y => decide (x < y))).Perm (((List.range t.nodes.length).map Int.ofNat).filter (fun y => decide (x < y))) := by
      rw [List.perm_iff_count]
      intro y
      by_cases hy : x < y
      · rw [List.count_filter (by simpa using hy), List.count_filter (by simpa using hy), count_ints]
        by_cases hn : y < t.nodes.length
        · rw [if_pos ⟨by omega, hn⟩]
          exact row_count h d y (by omega) hn (by omega)
        · rw [if_neg (by omega)]
          exact List.count_eq_zero.2 fun hm => hn (dfs_mem hc _ _ hl y hm).2
      · rw [List.count_eq_zero.2 (fun hm => by have := (List.mem_filter.1 hm).2; simp at this; omega), List.count_eq_zero.2 (fun hm => by have := (List.mem_filter.1 hm).2; simp at this; omega)]
    have e2 := (hp.flatMap_right (chOf t.nodes)).count_eq x
    rw [← hf, ← hf, range_flatMap] at e2
    have e3 := h.count x.toNat (by omega)
    rw [show ((x.toNat : Nat) : Int) = x by omega] at e3
    unfold rowP
    rw [e, e2, e3, List.count_cons, List.count_nil]
    by_cases hr : x = t.root
    · subst hr; simp
    · have : (t.root == x) = false := by simp; omega
      simp [hr, this]

structure RowOk (t : Tre) (row : List Int) : Prop where
  len : row.length = t.nodes.length
  head : row.head? = some t.root
  nodup : row.Nodup
  mem : ∀ x, x ∈ row ↔ 0 ≤ x ∧ x < t.nodes.length
  kids : ∀ (i : Nat) n, t.nodes[i]? = some n → ((i : Int) :: n.kids).Sublist row

theorem row_ok {t : Tre} (h : RightT t) : RowOk t (rowP t) := by
  have hc := h.kok.chOf
  have hl : ∀ k ∈ [t.root], 0 ≤ k ∧ k < (t.nodes.length : Int) := by
    intro k hk
    simp at hk
    subst hk
    exact h.root
  have hmem : ∀ x, x ∈ rowP t ↔ 0 ≤ x ∧ x < t.nodes.length := by
    intro x
    refine ⟨fun hx => dfs_mem hc _ _ hl x hx, fun hx => ?_⟩
    have := row_count h t.nodes.length x hx.1 hx.2 (by omega)
    exact List.count_pos_iff.1 (by omega)
  have hp : (rowP t).Perm ((List.range t.nodes.length).map Int.ofNat) := by
    rw [List.perm_iff_count]
    intro y
    rw [count_ints]
    by_cases hy : 0 ≤ y ∧ y < t.nodes.length
    · rw [if_pos hy]
      exact row_count h t.nodes.length y hy.1 hy.2 (by omega)
    · rw [if_neg hy]
      exact List.count_eq_zero.2 fun hm => hy ((hmem y).1 hm)
  refine ⟨by rw [hp.length_eq]; simp, ?_, ?_, hmem, fun i n hn => ?_⟩
  · unfold rowP
    rw [dfs_cons hc h.root.1 h.root.2]
    rfl
  · rw [hp.nodup_iff]
    refine List.Pairwise.map _ (fun a b (h : a ≠ b) => ?_) List.nodup_range
    exact fun e => h (Int.ofNat.inj e)
  · have hi := (List.getElem?_eq_some_iff.1 hn).1
    rw [chOf_get hn]
    exact dfs_sub hc _ _ hl i ((hmem i).2 ⟨by omega, by omega⟩)
end Go.Bonsai
namespace Go.Bonsai

/-- the numbers of what stands at a node, each behind what is within it -/
def behindP (t : Tre) (node : Int) : List Int := dfsP (chOf t.nodes) t.nodes.length [node]
/-- nodes taken out one by one; place: where each number went -/
def takenGo (ns : List Nod) : Nat → List Int → List Int → List Nod
  | _, _, [] => []
  | i, place, k :: l =>
    { ns.getD k.toNat .zero with kids := (ns.getD k.toNat .zero).kids.map fun x => (place.set k.toNat i).getD x.toNat 0 } :: takenGo ns (i + 1) (place.set k.toNat i) l
def takenP (t : Tre) (node : Int) : Tre := ⟨takenGo t.nodes 0 (List.replicate t.nodes.length 0) (behindP t node), (behindP t node).length - 1⟩
def movedP (ns : List Nod) (by_ : Int) : List Nod := ns.map fun n => { n with kids := n.kids.map (· + by_) }
def ofGo : List Tre → List Nod → List Int → Option (List Nod × List Int)
  | [], a, l => some (a, l)
  | k :: ks, a, l => if rightP k = true then ofGo ks (a ++ movedP (takenP k k.root).nodes a.length) (l ++ [((a.length + (takenP k k.root).nodes.length : Nat) : Int) - 1]) else none
def ofP (n : Nod) (kids : List Tre) : Tre × Bool :=
  if fits n kids.length = true then match ofGo kids [] [] with
    | some (a, l) => (⟨a ++ [{ n with kids := l }], a.length⟩, true)
    | none => (.zero, false)
  else (.zero, false)
def cleanP (t : Tre) : Tre := if rightP t = true then takenP t t.root else .zero
def sameP (a b : Tre) : Bool := decide (a.nodes.length = b.nodes.length) && rightP a && rightP b && decide ((takenP a a.root).nodes = (takenP b b.root).nodes)
def sizeP (t : Tre) : Int := if rightP t = true then t.nodes.length else 0
def deepKids (deep : List Int) (d : Int) : List Int → Int
  | [] => d
  | k :: l => deepKids deep (max d (deep.getD k.toNat 0)) l
def deepGo : List Nod → List Int → List Int
  | [], deep => deep
  | n :: l, deep => deepGo l (deep ++ [deepKids deep 0 n.kids + 1])
def depthP (t : Tre) : Int := if rightP t = true then (deepGo t.nodes []).getD t.root.toNat 0 else 0
def mayP (t : Tre) : Bool := decide (t.nodes.length ≤ 1024) && rightP t && decide (depthP t ≤ 32)
def walkP (t : Tre) : List Int := if rightP t = true then rowP t else []
def leafP (n : Nod) : Tre := ⟨[n], 0⟩
def emptyN : Nod := ⟨0, .zero, ⟨#[]⟩, 0, 0, []⟩
def notN : Nod := ⟨8, .zero, ⟨#[]⟩, 0, 0, []⟩
def notsP : Nat → Tre
  | 0 => leafP emptyN
  | k + 1 => (ofP notN [notsP k]).1

/-! ### sizes -/
theorem dfsP_count (ch : Int → List Int) : ∀ (f : Nat) (l : List Int) (x : Int), (dfsP ch f l).count x = (dfs ch f l).count x
  | 0, l, x => rfl
  | f + 1, l, x => by
    induction l with
    | nil => rfl
    | cons k l ih =>
      simp only [dfs, dfsP, List.flatMap_cons, List.count_append, List.count_cons, List.count_nil] at ih ⊢
      have := dfsP_count ch f (ch k) x
      omega
theorem dfsP_perm (ch : Int → List Int) (f : Nat) (l : List Int) : (dfsP ch f l).Perm (dfs ch f l) := List.perm_iff_count.2 (dfsP_count ch f l)
theorem takenGo_length (ns : List Nod) : ∀ (l : List Int) (i : Nat) (pl : List Int), (takenGo ns i pl l).length = l.length
  | [], _, _ => rfl
  | k :: l, i, pl => by simp [takenGo, takenGo_length ns l]

/-- what stands at a node stands in the row -/
theorem dfs_len_le {ch : Int → List Int} (hc : ChOk ch) (f : Nat) : ∀ (m : Nat) (l : List Int), (∀ k ∈ l, 0 ≤ k ∧ k < m) → m ≤ f → ∀ y ∈ dfs ch f l, (dfs ch f [y]).length ≤ (dfs ch f l).length
  | 0, l, h, hf, y, hy => by
    cases l with
    | nil => rw [dfs_nil] at hy; cases hy
    | cons k l => have := h k (by simp); omega
  | m + 1, l, h, hf, y, hy => by
    induction l with
    | nil => rw [dfs_nil] at hy; cases hy
    | cons k l ih =>
      have hk := h k (by simp)
      rw [dfs_cons hc hk.1 (by omega)] at hy ⊢
      have ih := ih (fun z hz => h z (by simp [hz]))
      simp only [List.length_cons, List.length_append]
      rcases List.mem_cons.1 hy with rfl | hy
      · rw [dfs_cons hc hk.1 (by omega), dfs_nil]
        simp
      · rcases List.mem_append.1 hy with hy | hy
        · have := dfs_len_le hc f m (ch k) (fun z hz => ⟨(hc k z hz).1, by have := (hc k z hz).2; omega⟩) (by omega) y hy
          omega
        · have := ih hy
          omega
theorem at_len {t : Tre} (h : RightT t) {node : Int} (h0 : 0 ≤ node) (hn : node < t.nodes.length) : (dfs (chOf t.nodes) t.nodes.length [node]).length ≤ t.nodes.length := by
  have hr := row_ok h
  have := dfs_len_le h.kok.chOf t.nodes.length t.nodes.length [t.root] (by intro k hk; simp at hk; subst hk; exact h.root) (Nat.le_refl _) node ((hr.mem node).2 ⟨h0, hn⟩)
  have e : (dfs (chOf t.nodes) t.nodes.length [t.root]).length = t.nodes.length := hr.len
  omega
theorem behind_len {t : Tre} (h : RightT t) {node : Int} (h0 : 0 ≤ node) (hn : node < t.nodes.length) : (behindP t node).length ≤ t.nodes.length := by
  rw [behindP, (dfsP_perm _ _ _).length_eq]
  exact at_len h h0 hn
theorem behind_mem {t : Tre} (h : RightT t) {node : Int} (h0 : 0 ≤ node) (hn : node < t.nodes.length) : ∀ x ∈ behindP t node, 0 ≤ x ∧ x < t.nodes.length := by
  intro x hx
  rw [behindP, (dfsP_perm _ _ _).mem_iff] at hx
  exact dfs_mem h.kok.chOf _ _ (by intro k hk; simp at hk; subst hk; exact ⟨h0, hn⟩) x hx
theorem behind_pos {t : Tre} (h : RightT t) {node : Int} (h0 : 0 ≤ node) (hn : node < t.nodes.length) : 0 < (behindP t node).length := by
  rw [behindP, (dfsP_perm _ _ _).length_eq, dfs_cons h.kok.chOf h0 hn]
  simp
end Go.Bonsai
namespace Go.Bonsai

inductive Fo where
  | nil
  | cons (n : Nod) (k r : Fo)
deriving DecidableEq

def Fo.size : Fo → Nat
  | nil => 0
  | cons _ k r => k.size + 1 + r.size
def Fo.len : Fo → Nat
  | nil => 0
  | cons _ _ r => r.len + 1
/-- the roots' numbers, the arena beginning at o -/
def Fo.tops : Nat → Fo → List Int
  | _, nil => []
  | o, cons _ k r => ((o + k.size : Nat) : Int) :: r.tops (o + k.size + 1)
/-- the clean arena, beginning at o -/
def Fo.ar : Nat → Fo → List Nod
  | _, nil => []
  | o, cons n k r => k.ar o ++ { n with kids := k.tops o } :: r.ar (o + k.size + 1)
def Fo.fit : Fo → Bool
  | nil => true
  | cons n k r => fits n k.len && k.fit && r.fit
/-- no node has numbers of its own -/
def Fo.bare : Fo → Prop
  | nil => True
  | cons n k r => n.kids = [] ∧ k.bare ∧ r.bare
def Fo.depth : Fo → Int
  | nil => 0
  | cons _ k r => max (k.depth + 1) r.depth
def Fo.app : Fo → Fo → Fo
  | nil, g => g
  | cons n k r, g => cons n k (r.app g)

def dat (ns : List Nod) (k : Int) : Nod := { ns.getD k.toNat .zero with kids := [] }
def foOf (ns : List Nod) : Nat → List Int → Fo
  | 0, _ => .nil
  | f + 1, l => l.foldr (fun k r => .cons (dat ns k) (foOf ns f (chOf ns k)) r) .nil
/-- what a tree denotes -/
def foT (t : Tre) : Fo := foOf t.nodes t.nodes.length [t.root]
/-- the clean tree of a node over a forest -/
def treT (F : Fo) : Tre := ⟨F.ar 0, (F.size : Int) - 1⟩

theorem fits_kids (n : Nod) (ks : List Int) (c : Int) : fits { n with kids := ks } c = fits n c := rfl
theorem foOf_nil (ns : List Nod) (f : Nat) : foOf ns f [] = .nil := by cases f <;> rfl
theorem foOf_cons (ns : List Nod) (f : Nat) (k : Int) (l : List Int) : foOf ns (f + 1) (k :: l) = .cons (dat ns k) (foOf ns f (chOf ns k)) (foOf ns (f + 1) l) := rfl

theorem Fo.ar_len : ∀ (F : Fo) (o : Nat), (F.ar o).length = F.size
  | nil, _ => rfl
  | cons n k r, o => by simp [ar, size, ar_len k, ar_len r]; omega
theorem Fo.tops_len : ∀ (F : Fo) (o : Nat), (F.tops o).length = F.len
  | nil, _ => rfl
  | cons n k r, o => by simp [tops, len, tops_len r]
theorem Fo.tops_mem : ∀ (F : Fo) (o : Nat), ∀ x ∈ F.tops o, (o : Int) ≤ x ∧ x < ((o + F.size : Nat) : Int)
  | nil, _, x, h => by simp [tops] at h
  | cons n k r, o, x, h => by
    simp only [tops, List.mem_cons] at h
    simp only [size]
    rcases h with rfl | h
    · omega
    · have := tops_mem r _ x h
      omega
theorem foOf_bare (ns : List Nod) : ∀ (f : Nat) (l : List Int), (foOf ns f l).bare
  | 0, l => trivial
  | f + 1, l => by
    induction l with
    | nil => exact trivial
    | cons k l ih => exact ⟨rfl, foOf_bare ns f _, ih⟩
theorem foOf_len (ns : List Nod) : ∀ (f : Nat) (l : List Int), 0 < f → (foOf ns f l).len = l.length
  | 0, l, h => by omega
  | f + 1, l, h => by
    induction l with
    | nil => rfl
    | cons k l ih => rw [foOf_cons, Fo.len, ih]; rfl
theorem foOf_fuel {ns : List Nod} (h : ChOk (chOf ns)) : ∀ (f g : Nat) (l : List Int), (∀ k ∈ l, 0 ≤ k ∧ k < f) → (∀ k ∈ l, k < g) → foOf ns f l = foOf ns g l
  | 0, g, l, hf, hg => by
    cases l with
    | nil => rw [foOf_nil, foOf_nil]
    | cons k l => have := hf k (by simp); omega
  | f + 1, 0, l, hf, hg => by
    cases l with
    | nil => rw [foOf_nil, foOf_nil]
    | cons k l =>
      have := hf k (by simp)
      have := hg k (by simp)
      omega
  | f + 1, g + 1, l, hf, hg => by
    induction l with
    | nil => rfl
    | cons k l ih =>
      have h1 := hf k (by simp)
      have h2 := hg k (by simp)
      rw [foOf_cons, foOf_cons, ih (fun x hx => hf x (by simp [hx])) (fun x hx => hg x (by simp [hx])),
        foOf_fuel h f g (chOf ns k) (fun x hx => ⟨(h k x hx).1, by have := (h k x hx).2; omega⟩) (fun x hx => by have := (h k x hx).2; omega)]

/-! ### taking out -/
theorem getD_setI (l : List Int) (i j : Nat) (b : Int) : (l.set i b).getD j 0 = if i = j ∧ i < l.length then b else l.getD j 0 := by
  simp only [List.getD_eq_getElem?_getD, List.getElem?_set]
  by_cases h : i = j
  · subst h
    by_cases hl : i < l.length
    · simp [hl]
    · simp [hl]
  · simp [h]

theorem takenGo_fo {ns : List Nod} (hc : ChOk (chOf ns)) : ∀ (f : Nat) (l : List Int) (i : Nat) (pl rest : List Int), (∀ k ∈ l, 0 ≤ k ∧ k < f) → f ≤ ns.length → pl.length = ns.length → (dfsP (chOf ns) f l).Nodup →
    ∃ pl' : List Int, pl'.length = ns.length ∧ takenGo ns i pl (dfsP (chOf ns) f l ++ rest) = (foOf ns f l).ar i ++ takenGo ns (i + (foOf ns f l).size) pl' rest ∧
      (l.map fun x => pl'.getD x.toNat 0) = (foOf ns f l).tops i ∧ ∀ x : Int, 0 ≤ x → x ∉ dfsP (chOf ns) f l → pl'.getD x.toNat 0 = pl.getD x.toNat 0
  | 0, l, i, pl, rest, hl, hf, hp, hn => by
    cases l with
    | nil => exact ⟨pl, hp, by simp [dfsP_nil, foOf_nil, Fo.ar, Fo.size], rfl, fun _ _ _ => rfl⟩
    | cons k l => have := hl k (by simp); omega
  | f + 1, [], i, pl, rest, hl, hf, hp, hn => ⟨pl, hp, by simp [dfsP_nil, foOf_nil, Fo.ar, Fo.size], rfl, fun _ _ _ => rfl⟩
  | f + 1, k :: l, i, pl, rest, hl, hf, hp, hn => by
    have hk := hl k (by simp)
    have hchk : ∀ x ∈ chOf ns k, 0 ≤ x ∧ x < (f : Int) := fun x hx => ⟨(hc k x hx).1, by have := (hc k x hx).2; omega⟩
    have e : dfsP (chOf ns) (f + 1) (k :: l) = dfsP (chOf ns) f (chOf ns k) ++ (k :: dfsP (chOf ns) (f + 1) l) := by simp [dfsP]
    rw [e] at hn ⊢
    obtain ⟨n1, n2, n3⟩ := List.nodup_append.1 hn
    obtain ⟨n4, n5⟩ := List.nodup_cons.1 n2
    obtain ⟨p1, q1, q2, q3, q4⟩ := takenGo_fo hc f (chOf ns k) i pl (k :: dfsP (chOf ns) (f + 1) l ++ rest) hchk (by omega) hp n1
    have hkl : k.toNat < p1.length := by omega
    obtain ⟨p2, r1, r2, r3, r4⟩ := takenGo_fo hc (f + 1) l (i + (foOf ns f (chOf ns k)).size + 1) (p1.set k.toNat ((i + (foOf ns f (chOf ns k)).size : Nat) : Int)) rest (fun x hx => hl x (by simp [hx])) hf (by simpa using q1) n5
    have hkd : ns.getD k.toNat .zero = { dat ns k with kids := chOf ns k } := by
      have : k.toNat < ns.length := by omega
      have h2 := List.getElem?_eq_getElem this
      have h3 := chOf_get h2
      rw [show ((k.toNat : Nat) : Int) = k by omega] at h3
      simp only [dat, List.getD_eq_getElem?_getD, h2, Option.getD_some]
      rw [← h3]
    have hks : (chOf ns k).map (fun x => (p1.set k.toNat ((i + (foOf ns f (chOf ns k)).size : Nat) : Int)).getD x.toNat 0) = (foOf ns f (chOf ns k)).tops i := by
      rw [← q3]
      apply List.map_congr_left
      intro x hx
      have := hchk x hx
      have := (hc k x hx).2
      rw [getD_setI, if_neg (by omega)]
    refine ⟨p2, r1, ?_, ?_, ?_⟩
    · rw [List.append_assoc, q2]
      simp only [List.cons_append, takenGo]
      rw [r2, hkd, foOf_cons]
      simp only [Fo.ar, Fo.size, hks, List.append_assoc, List.cons_append]
      rw [show i + ((foOf ns f (chOf ns k)).size + 1 + (foOf ns (f + 1) l).size) = i + (foOf ns f (chOf ns k)).size + 1 + (foOf ns (f + 1) l).size by omega]
    · rw [foOf_cons, Fo.tops, List.map_cons, r3, r4 k hk.1 n4, getD_setI, if_pos ⟨rfl, hkl⟩]
    · intro x h0 hx
      simp only [List.mem_append, List.mem_cons, not_or] at hx
      rw [r4 x h0 hx.2.2, getD_setI, if_neg (by omega), q4 x h0 hx.1]

theorem size_dfsP (ns : List Nod) : ∀ (f : Nat) (l : List Int), (foOf ns f l).size = (dfsP (chOf ns) f l).length
  | 0, l => rfl
  | f + 1, l => by
    induction l with
    | nil => rfl
    | cons k l ih =>
      rw [foOf_cons, Fo.size, ih, size_dfsP ns f]
      simp [dfsP]; omega

/-- each number once, below any node -/
theorem dfs_nodup_at {t : Tre} (h : RightT t) {node : Int} (h0 : 0 ≤ node) (hn : node < t.nodes.length) : (dfsP (chOf t.nodes) t.nodes.length [node]).Nodup := by
  rw [(dfsP_perm _ _ _).nodup_iff]
  have hr := row_ok h
  have key : ∀ (m : Nat) (l : List Int), (∀ k ∈ l, 0 ≤ k ∧ k < m) → m ≤ t.nodes.length → (dfs (chOf t.nodes) t.nodes.length l).Nodup → ∀ y ∈ dfs (chOf t.nodes) t.nodes.length l, (dfs (chOf t.nodes) t.nodes.length [y]).Nodup := by
    intro m
    induction m with
    | zero =>
      intro l hl _ _ y hy
      cases l with
      | nil => rw [dfs_nil] at hy; cases hy
      | cons k l => have := hl k (by simp); omega
    | succ m ihm =>
      intro l hl hm hnd y hy
      induction l with
      | nil => rw [dfs_nil] at hy; cases hy
      | cons k l ih =>
        have hk := hl k (by simp)
        rw [dfs_cons h.kok.chOf hk.1 (by omega)] at hy hnd
        obtain ⟨a1, a2⟩ := List.nodup_cons.1 hnd
        obtain ⟨b1, b2, b3⟩ := List.nodup_append.1 a2
        rcases List.mem_cons.1 hy with rfl | hy
        · rw [dfs_cons h.kok.chOf hk.1 (by omega), dfs_nil, List.append_nil]
          exact List.nodup_cons.2 ⟨fun hh => a1 (by simp [hh]), b1⟩
        · rcases List.mem_append.1 hy with hy | hy
          · exact ihm (chOf t.nodes k) (fun x hx => ⟨(h.kok.chOf k x hx).1, by have := (h.kok.chOf k x hx).2; omega⟩) (by omega) b1 y hy
          · exact ih (fun x hx => hl x (by simp [hx])) b2 hy
  exact key t.nodes.length [t.root] (by intro k hk; simp at hk; subst hk; exact h.root) (Nat.le_refl _) hr.nodup node ((hr.mem node).2 ⟨h0, hn⟩)

/-- what is taken is the clean tree of what stands there -/
theorem takenP_fo {t : Tre} (h : RightT t) {node : Int} (h0 : 0 ≤ node) (hn : node < t.nodes.length) : takenP t node = treT (foOf t.nodes t.nodes.length [node]) := by
  obtain ⟨pl, h1, h2, h3, h4⟩ := takenGo_fo h.kok.chOf t.nodes.length [node] 0 (List.replicate t.nodes.length 0) [] (by intro k hk; simp at hk; subst hk; exact ⟨h0, hn⟩) (Nat.le_refl _) (by simp) (dfs_nodup_at h h0 hn)
  unfold takenP treT behindP
  rw [size_dfsP]
  simp only [List.append_nil] at h2
  rw [h2]
  simp [takenGo]

/-! ### the clean arena denotes its forest -/
theorem foOf_ar : ∀ (F : Fo), F.bare → ∀ (f : Nat) (pre post : List Nod), pre.length + F.size ≤ f → foOf (pre ++ (F.ar pre.length ++ post)) f (F.tops pre.length) = F
  | .nil, _, f, pre, post, _ => by simp [Fo.tops, foOf_nil]
  | .cons n k r, hb, 0, pre, post, hf => by simp [Fo.size] at hf
  | .cons n k r, hb, f + 1, pre, post, hf => by
    obtain ⟨b1, b2, b3⟩ := hb
    simp only [Fo.size] at hf
    have ek := foOf_ar k b2 f pre ({ n with kids := k.tops pre.length } :: r.ar (pre.length + k.size + 1) ++ post) (by omega)
    have el : (pre ++ (k.ar pre.length ++ [{ n with kids := k.tops pre.length }])).length = pre.length + k.size + 1 := by simp [Fo.ar_len]; omega
    have er := foOf_ar r b3 (f + 1) (pre ++ (k.ar pre.length ++ [{ n with kids := k.tops pre.length }])) post (by rw [el]; omega)
    rw [el] at er
    have e1 : pre ++ ((Fo.cons n k r).ar pre.length ++ post) = pre ++ (k.ar pre.length ++ ({ n with kids := k.tops pre.length } :: r.ar (pre.length + k.size + 1) ++ post)) := by simp [Fo.ar]
    have e2 : pre ++ ((Fo.cons n k r).ar pre.length ++ post) = pre ++ (k.ar pre.length ++ [{ n with kids := k.tops pre.length }]) ++ (r.ar (pre.length + k.size + 1) ++ post) := by simp [Fo.ar]
    rw [← e1] at ek
    rw [← e2] at er
    have hget : (pre ++ ((Fo.cons n k r).ar pre.length ++ post))[pre.length + k.size]? = some { n with kids := k.tops pre.length } := by
      rw [e1, List.getElem?_append_right (by omega), Nat.add_sub_cancel_left, List.getElem?_append_right (by rw [Fo.ar_len]; omega), Fo.ar_len, Nat.sub_self]
      rfl
    have hch := chOf_get hget
    simp only at hch
    rw [Fo.tops, foOf_cons, er, ← hch, ek]
    congr 1
    simp only [dat, Int.toNat_natCast, List.getD_eq_getElem?_getD, hget, Option.getD_some]
    rw [← b1]

theorem foT_treT {n : Nod} {k : Fo} (hb : (Fo.cons n k .nil).bare) : foT (treT (.cons n k .nil)) = .cons n k .nil := by
  have h := foOf_ar (.cons n k .nil) hb ((Fo.cons n k .nil).ar 0).length [] [] (by simp [Fo.ar_len])
  simp only [List.length_nil, List.nil_append, List.append_nil] at h
  unfold foT treT
  simp only
  conv => rhs; rw [← h]
  congr 1
  simp only [Fo.tops, Fo.size]
  congr 1
  omega
end Go.Bonsai
namespace Go.Bonsai

/-! ### when `right` says yes -/
theorem takeKids_some (i : Int) : ∀ (l : List Int) (tk : List Bool), i ≤ tk.length → (∀ k ∈ l, 0 ≤ k ∧ k < i) → (∀ j : Nat, (tk.getD j false).toNat + l.count (j : Int) ≤ 1) → ∃ tk', takeKids i l tk = some tk'
  | [], tk, _, _, _ => ⟨tk, rfl⟩
  | k :: l, tk, hi, hk, hc => by
    have h0 := hk k (by simp)
    have hck := hc k.toNat
    rw [show ((k.toNat : Nat) : Int) = k by omega, List.count_cons, beq_self_eq_true, if_pos rfl] at hck
    have htk : tk.getD k.toNat false = false := by
      cases hh : tk.getD k.toNat false with
      | false => rfl
      | true => rw [hh] at hck; simp at hck; omega
    unfold takeKids
    rw [if_neg (by rw [htk]; simp; omega)]
    refine takeKids_some i l _ (by simpa using hi) (fun x hx => hk x (by simp [hx])) (fun j => ?_)
    have hcj := hc j
    rw [getD_set _ _ _ _ (by omega)]
    rw [List.count_cons] at hcj
    by_cases hj : k.toNat = j
    · subst hj
      rw [if_pos rfl]
      rw [show ((k.toNat : Nat) : Int) = k by omega] at hcj ⊢
      simp at hcj ⊢
      omega
    · rw [if_neg hj]
      have : (k == (j : Int)) = false := by simp; omega
      rw [this] at hcj
      simpa using hcj

def NOk (i : Nat) (l : List Nod) : Prop := ∀ (j : Nat) n, l[j]? = some n → fits n n.kids.length = true ∧ ∀ k ∈ n.kids, 0 ≤ k ∧ k < ((i + j : Nat) : Int)
theorem takeNodes_some : ∀ (l : List Nod) (i : Nat) (tk : List Bool), i + l.length ≤ tk.length → NOk i l → (∀ j : Nat, (tk.getD j false).toNat + (allKids l).count (j : Int) ≤ 1) → ∃ tk', takeNodes i l tk = some tk'
  | [], i, tk, _, _, _ => ⟨tk, rfl⟩
  | n :: l, i, tk, hi, hn, hc => by
    simp only [List.length_cons] at hi
    have h0 := hn 0 n rfl
    simp only [allKids, List.flatMap_cons, List.count_append] at hc
    obtain ⟨t1, ht1⟩ := takeKids_some i n.kids tk (by omega) (fun k hk => by have := h0.2 k hk; omega) (fun j => by have := hc j; omega)
    have hl := takeKids_len i _ _ _ ht1
    obtain ⟨_, a2⟩ := takeKids_count i n.kids tk t1 (by omega) ht1
    obtain ⟨t2, ht2⟩ := takeNodes_some l (i + 1) t1 (by omega) (fun j m hj => ⟨(hn (j + 1) m (by simpa using hj)).1, fun k hk => by have := (hn (j + 1) m (by simpa using hj)).2 k hk; omega⟩)
      (fun j => by rw [a2 j]; have := hc j; simp only [allKids]; omega)
    refine ⟨t2, ?_⟩
    unfold takeNodes
    rw [if_pos h0.1, ht1]
    exact ht2

theorem rightP_of {t : Tre} (hr : 0 ≤ t.root ∧ t.root < t.nodes.length) (hn : NOk 0 t.nodes) (hc : ∀ i : Nat, i < t.nodes.length → (allKids t.nodes).count (i : Int) = if (i : Int) = t.root then 0 else 1) : rightP t = true := by
  have hz : ∀ j, (List.replicate t.nodes.length false).getD j false = false := fun j => by simp [List.getD_eq_getElem?_getD, List.getElem?_replicate]; split <;> rfl
  have hle : ∀ j : Nat, (allKids t.nodes).count (j : Int) ≤ 1 := by
    intro j
    by_cases hj : j < t.nodes.length
    · rw [hc j hj]; split <;> omega
    · rw [List.count_eq_zero.2]
      · omega
      · intro hm
        obtain ⟨n, hn1, hn2⟩ := List.mem_flatMap.1 hm
        obtain ⟨i, hi⟩ := List.mem_iff_getElem?.1 hn1
        have := (hn i n hi).2 _ hn2
        have := (List.getElem?_eq_some_iff.1 hi).1
        omega
  obtain ⟨tk, htk⟩ := takeNodes_some t.nodes 0 (List.replicate t.nodes.length false) (by simp) hn (fun j => by rw [hz]; have := hle j; simpa using this)
  obtain ⟨_, b⟩ := takeNodes_count t.nodes 0 _ _ (by simp) htk
  unfold rightP
  rw [htk]
  simp only [Bool.and_eq_true, decide_eq_true_eq]
  refine ⟨⟨hr.1, hr.2⟩, ?_⟩
  rw [List.all_eq_true]
  intro i hi
  have hi : i < t.nodes.length := by simpa using hi
  have hb := b i
  rw [hz, hc i hi] at hb
  by_cases h : (i : Int) = t.root
  · rw [if_pos h] at hb
    simp only [h, decide_true]
    cases hv : tk.getD i false with
    | false => rfl
    | true => rw [hv] at hb; simp at hb
  · rw [if_neg h] at hb
    simp only [h, decide_false]
    cases hv : tk.getD i false with
    | false => rw [hv] at hb; simp at hb
    | true => rfl

theorem RightT.right {t : Tre} (h : RightT t) : rightP t = true :=
  rightP_of h.root (fun i n hi => ⟨h.fits i n hi, fun k hk => by have := h.kok i n hi k hk; omega⟩) h.count
theorem rightP_iff {t : Tre} : rightP t = true ↔ RightT t := ⟨rightP_spec, RightT.right⟩

/-! ### clean arenas -/
theorem NOk.app {i : Nat} {a b : List Nod} (ha : NOk i a) (hb : NOk (i + a.length) b) : NOk i (a ++ b) := by
  intro j n hj
  by_cases h : j < a.length
  · rw [List.getElem?_append_left h] at hj
    exact ha j n hj
  · rw [List.getElem?_append_right (by omega)] at hj
    obtain ⟨h1, h2⟩ := hb _ n hj
    exact ⟨h1, fun k hk => by have := h2 k hk; omega⟩
theorem Fo.nok : ∀ (F : Fo) (o : Nat), F.fit = true → NOk o (F.ar o)
  | nil, o, _ => fun j n h => by simp [ar] at h
  | cons n k r, o, h => by
    simp only [fit, Bool.and_eq_true] at h
    have hk := nok k o h.1.2
    have hr := nok r (o + k.size + 1) h.2
    rw [ar]
    refine hk.app ?_
    rw [show ({ n with kids := k.tops o } :: r.ar (o + k.size + 1)) = [{ n with kids := k.tops o }] ++ r.ar (o + k.size + 1) from rfl]
    refine NOk.app ?_ (by rw [ar_len]; simpa [Nat.add_assoc] using hr)
    intro j m hj
    cases j with
    | zero =>
      simp at hj
      subst hj
      refine ⟨by rw [fits_kids, tops_len]; exact h.1.1, fun x hx => ?_⟩
      have := tops_mem k o x hx
      rw [ar_len]
      omega
    | succ j => simp at hj
theorem Fo.counts : ∀ (F : Fo) (o : Nat) (x : Int), (allKids (F.ar o)).count x + (F.tops o).count x = if (o : Int) ≤ x ∧ x < ((o + F.size : Nat) : Int) then 1 else 0
  | nil, o, x => by
    rw [if_neg (by simp only [size]; omega)]
    rfl
  | cons n k r, o, x => by
    have hk := counts k o x
    have hr := counts r (o + k.size + 1) x
    have e : allKids ((Fo.cons n k r).ar o) = allKids (k.ar o) ++ (k.tops o ++ allKids (r.ar (o + k.size + 1))) := by simp [allKids, ar]
    rw [e, tops, List.count_append, List.count_append, List.count_cons, size]
    by_cases h : ((o + k.size : Nat) : Int) = x
    · rw [if_neg (by omega)] at hk hr
      have hb : (((o + k.size : Nat) : Int) == x) = true := by simpa using h
      rw [hb, if_pos rfl, if_pos (by omega)]
      omega
    · have hb : (((o + k.size : Nat) : Int) == x) = false := by simpa using h
      rw [hb]
      simp only [Bool.false_eq_true, if_false]
      by_cases h1 : (o : Int) ≤ x ∧ x < ((o + k.size : Nat) : Int)
      · rw [if_pos h1] at hk
        rw [if_neg (by omega)] at hr
        rw [if_pos (by omega)]
        omega
      · rw [if_neg h1] at hk
        by_cases h2 : ((o + k.size + 1 : Nat) : Int) ≤ x ∧ x < ((o + k.size + 1 + r.size : Nat) : Int)
        · rw [if_pos h2] at hr
          rw [if_pos (by omega)]
          omega
        · rw [if_neg h2] at hr
          rw [if_neg (by omega)]
          omega
theorem right_treT {n : Nod} {k : Fo} (h : (Fo.cons n k .nil).fit = true) : rightP (treT (.cons n k .nil)) = true := by
  have hl := Fo.ar_len (.cons n k .nil) 0
  refine rightP_of ?_ (Fo.nok _ 0 h) (fun i hi => ?_)
  · simp only [treT, hl, Fo.size]; omega
  · have hc := Fo.counts (.cons n k .nil) 0 (i : Int)
    have hi : i < (Fo.cons n k .nil).size := by rw [← hl]; exact hi
    show (allKids ((Fo.cons n k .nil).ar 0)).count (i : Int) = if (i : Int) = ((Fo.cons n k .nil).size : Int) - 1 then 0 else 1
    rw [if_pos (by omega)] at hc
    simp only [Fo.tops, List.count_cons, List.count_nil] at hc
    have hsz : ((Fo.cons n k .nil).size : Int) - 1 = (k.size : Int) := by simp only [Fo.size]; omega
    by_cases he : (i : Int) = (k.size : Int)
    · rw [if_pos (he.trans hsz.symm)]
      have : (((0 + k.size : Nat) : Int) == (i : Int)) = true := by simp; omega
      rw [this] at hc
      simp at hc
      exact hc
    · rw [if_neg (fun e => he (e.trans hsz))]
      have : (((0 + k.size : Nat) : Int) == (i : Int)) = false := by simp; omega
      rw [this] at hc
      simpa using hc

/-! ### what a right tree denotes -/
theorem foOf_fit {t : Tre} (h : RightT t) : ∀ (f : Nat) (l : List Int), (∀ k ∈ l, 0 ≤ k ∧ k < f) → f ≤ t.nodes.length → (foOf t.nodes f l).fit = true
  | 0, l, _, _ => rfl
  | f + 1, l, hl, hf => by
    induction l with
    | nil => rfl
    | cons k l ih =>
      have hk := hl k (by simp)
      rw [foOf_cons, Fo.fit, ih (fun x hx => hl x (by simp [hx])), foOf_fit h f _ (fun x hx => ⟨(h.kok.chOf k x hx).1, by have := (h.kok.chOf k x hx).2; omega⟩) (by omega), Bool.and_true, Bool.and_true]
      have hlt : k.toNat < t.nodes.length := by omega
      have hg := List.getElem?_eq_getElem hlt
      have h1 := h.fits _ _ hg
      have h2 := chOf_get hg
      rw [show ((k.toNat : Nat) : Int) = k by omega] at h2
      have hlen : (foOf t.nodes f (chOf t.nodes k)).len = (chOf t.nodes k).length := by
        cases f with
        | zero =>
          cases hc : chOf t.nodes k with
          | nil => rfl
          | cons x l =>
            have := h.kok.chOf k x (by rw [hc]; simp)
            omega
        | succ f => exact foOf_len _ _ _ (by omega)
      rw [hlen, ← h2]
      simp only [dat, List.getD_eq_getElem?_getD, hg, Option.getD_some, fits_kids]
      exact h1

/-- one node over a forest -/
theorem foT_one {t : Tre} (h : RightT t) : ∃ n k, foT t = .cons n k .nil ∧ (Fo.cons n k .nil).bare ∧ (Fo.cons n k .nil).fit = true := by
  have hb := foOf_bare t.nodes t.nodes.length [t.root]
  have hf := foOf_fit h t.nodes.length [t.root] (by intro k hk; simp at hk; subst hk; exact h.root) (Nat.le_refl _)
  unfold foT
  have hp : 0 < t.nodes.length := by have := h.root; omega
  obtain ⟨f, hf'⟩ : ∃ f, t.nodes.length = f + 1 := ⟨t.nodes.length - 1, by omega⟩
  rw [hf', foOf_cons, foOf_nil] at hb hf ⊢
  exact ⟨_, _, rfl, hb, hf⟩
theorem cleanP_fo {t : Tre} (h : RightT t) : takenP t t.root = treT (foT t) := takenP_fo h h.root.1 h.root.2
theorem foT_clean {t : Tre} (h : RightT t) : RightT (treT (foT t)) ∧ foT (treT (foT t)) = foT t := by
  obtain ⟨n, k, e, hb, hf⟩ := foT_one h
  rw [e]
  exact ⟨rightP_spec (right_treT hf), foT_treT hb⟩
theorem treT_inj {n m : Nod} {k j : Fo} (hb : (Fo.cons n k .nil).bare) (hb' : (Fo.cons m j .nil).bare) (h : treT (.cons n k .nil) = treT (.cons m j .nil)) : Fo.cons n k .nil = .cons m j .nil := by
  rw [← foT_treT hb, ← foT_treT hb', h]
theorem size_fo {t : Tre} (h : RightT t) : (foT t).size = t.nodes.length := by
  unfold foT
  rw [size_dfsP, (dfsP_perm _ _ _).length_eq]
  exact (row_ok h).len

/-! ### shifting -/
theorem Fo.tops_shift : ∀ (F : Fo) (o d : Nat), (F.tops o).map (· + (d : Int)) = F.tops (o + d)
  | nil, _, _ => rfl
  | cons n k r, o, d => by
    simp only [tops, List.map_cons, tops_shift r]
    rw [show o + d + k.size + 1 = o + k.size + 1 + d by omega]
    congr 1
    omega
theorem Fo.ar_shift : ∀ (F : Fo) (o d : Nat), movedP (F.ar o) (d : Int) = F.ar (o + d)
  | nil, _, _ => rfl
  | cons n k r, o, d => by
    have hk := ar_shift k o d
    have hr := ar_shift r (o + k.size + 1) d
    simp only [movedP] at hk hr
    simp only [movedP, ar, List.map_append, List.map_cons, hk, hr, tops_shift]
    rw [show o + d + k.size + 1 = o + k.size + 1 + d by omega]
theorem Fo.ar_app : ∀ (F G : Fo) (o : Nat), (F.app G).ar o = F.ar o ++ G.ar (o + F.size)
  | nil, _, _ => by simp [app, ar, size]
  | cons n k r, G, o => by
    simp only [app, ar, ar_app r G, size, List.append_assoc, List.cons_append]
    rw [show o + (k.size + 1 + r.size) = o + k.size + 1 + r.size by omega]
theorem Fo.tops_app : ∀ (F G : Fo) (o : Nat), (F.app G).tops o = F.tops o ++ G.tops (o + F.size)
  | nil, _, _ => by simp [app, tops, size]
  | cons n k r, G, o => by
    simp only [app, tops, tops_app r G, size, List.cons_append]
    rw [show o + (k.size + 1 + r.size) = o + k.size + 1 + r.size by omega]
theorem Fo.size_app : ∀ (F G : Fo), (F.app G).size = F.size + G.size
  | nil, _ => by simp [app, size]
  | cons n k r, G => by simp only [app, size, size_app r G]; omega
theorem Fo.len_app : ∀ (F G : Fo), (F.app G).len = F.len + G.len
  | nil, _ => by simp [app, len]
  | cons n k r, G => by simp only [app, len, len_app r G]; omega
theorem Fo.fit_app : ∀ (F G : Fo), (F.app G).fit = (F.fit && G.fit)
  | nil, _ => by simp [app, fit]
  | cons n k r, G => by simp only [app, fit, fit_app r G, Bool.and_assoc]
theorem Fo.bare_app : ∀ (F G : Fo), (F.app G).bare ↔ F.bare ∧ G.bare
  | nil, _ => by simp [app, bare]
  | cons n k r, G => by simp only [app, bare, bare_app r G, and_assoc]

/-- the forest of trees -/
def foL : List Tre → Fo
  | [] => .nil
  | t :: l => (foT t).app (foL l)
theorem ofGo_fo : ∀ (l : List Tre) (F : Fo), (∀ t ∈ l, rightP t = true) → ofGo l (F.ar 0) (F.tops 0) = some ((F.app (foL l)).ar 0, (F.app (foL l)).tops 0)
  | [], F, _ => by
    have e : ∀ F : Fo, F.app .nil = F := by
      intro F
      induction F with
      | nil => rfl
      | cons n k r _ ih => rw [Fo.app, ih]
    simp [ofGo, foL, e]
  | t :: l, F, h => by
    have ht := h t (by simp)
    have hT := rightP_spec ht
    obtain ⟨n, k, e, hb, hf⟩ := foT_one hT
    have e1 : F.ar 0 ++ movedP (takenP t t.root).nodes ((F.ar 0).length) = (F.app (foT t)).ar 0 := by
      rw [cleanP_fo hT, Fo.ar_app, Fo.ar_len]
      congr 1
      exact Fo.ar_shift _ 0 _
    have e2 : F.tops 0 ++ [(((F.ar 0).length + (takenP t t.root).nodes.length : Nat) : Int) - 1] = (F.app (foT t)).tops 0 := by
      rw [cleanP_fo hT, Fo.tops_app, Fo.ar_len]
      congr 1
      simp only [treT, Fo.ar_len, e, Fo.tops, Fo.size]
      congr 1
      omega
    have ea : ∀ F G H : Fo, (F.app G).app H = F.app (G.app H) := by
      intro F G H
      induction F with
      | nil => rfl
      | cons n k r _ ih => simp only [Fo.app, ih]
    rw [ofGo, if_pos ht, e1, e2, ofGo_fo l _ (fun x hx => h x (by simp [hx])), foL, ea]
theorem ofGo_none : ∀ (l : List Tre) (a : List Nod) (ks : List Int), (¬ ∀ t ∈ l, rightP t = true) → ofGo l a ks = none
  | [], _, _, h => absurd (by simp) h
  | t :: l, a, ks, h => by
    unfold ofGo
    split
    · rename_i ht
      refine ofGo_none l _ _ (fun h2 => h fun x hx => ?_)
      rcases List.mem_cons.1 hx with rfl | hx
      · exact ht
      · exact h2 x hx
    · rfl
theorem ofP_fo {n : Nod} {l : List Tre} (hf : fits n l.length = true) (h : ∀ t ∈ l, rightP t = true) : ofP n l = (treT (.cons { n with kids := [] } (foL l) .nil), true) := by
  have hg := ofGo_fo l .nil h
  simp only [Fo.ar, Fo.tops, Fo.app] at hg
  unfold ofP
  rw [if_pos hf, hg]
  simp only [treT, Fo.ar, Fo.size, Fo.ar_len]
  congr 2
  omega
theorem ofP_no {n : Nod} {l : List Tre} (h : ¬ (fits n l.length = true ∧ ∀ t ∈ l, rightP t = true)) : ofP n l = (.zero, false) := by
  unfold ofP
  split
  · rename_i hf
    rw [ofGo_none l [] [] (fun h2 => h ⟨hf, h2⟩)]
  · rfl
theorem foL_len : ∀ (l : List Tre), (∀ t ∈ l, rightP t = true) → (foL l).len = l.length ∧ (foL l).fit = true ∧ (foL l).bare
  | [], _ => ⟨rfl, rfl, trivial⟩
  | t :: l, h => by
    obtain ⟨n, k, e, hb, hf⟩ := foT_one (rightP_spec (h t (by simp)))
    obtain ⟨h1, h2, h3⟩ := foL_len l (fun x hx => h x (by simp [hx]))
    rw [foL, Fo.len_app, Fo.fit_app, Fo.bare_app, e, h1, h2]
    exact ⟨by simp [Fo.len]; omega, by rw [hf]; rfl, hb, h3⟩
/-- what is made is right, and denotes the node over what its kids denote -/
theorem ofP_right {n : Nod} {l : List Tre} (hf : fits n l.length = true) (h : ∀ t ∈ l, rightP t = true) :
    RightT (ofP n l).1 ∧ foT (ofP n l).1 = .cons { n with kids := [] } (foL l) .nil ∧ (ofP n l).2 = true := by
  obtain ⟨h1, h2, h3⟩ := foL_len l h
  rw [ofP_fo hf h]
  refine ⟨rightP_spec (right_treT ?_), foT_treT ⟨rfl, h3, trivial⟩, rfl⟩
  simp only [Fo.fit, h1, h2, Bool.and_true]
  exact hf
/-- two right trees are the same just if they denote the same -/
theorem sameP_fo {a b : Tre} : sameP a b = true ↔ RightT a ∧ RightT b ∧ foT a = foT b := by
  unfold sameP
  simp only [Bool.and_eq_true, decide_eq_true_eq, rightP_iff]
  constructor
  · rintro ⟨⟨⟨h1, h2⟩, h3⟩, h4⟩
    refine ⟨h2, h3, ?_⟩
    rw [cleanP_fo h2, cleanP_fo h3] at h4
    obtain ⟨n, k, e, hb, hf⟩ := foT_one h2
    obtain ⟨m, j, e', hb', hf'⟩ := foT_one h3
    rw [e, e'] at h4 ⊢
    refine treT_inj hb hb' ?_
    have hs : (Fo.cons n k .nil).size = (Fo.cons m j .nil).size := by
      have h5 := congrArg List.length h4
      simpa [treT, Fo.ar_len] using h5
    simp only [treT] at h4 ⊢
    rw [h4, hs]
  · rintro ⟨h2, h3, h4⟩
    refine ⟨⟨⟨?_, h2⟩, h3⟩, by rw [cleanP_fo h2, cleanP_fo h3, h4]⟩
    rw [← size_fo h2, ← size_fo h3, h4]
end Go.Bonsai
