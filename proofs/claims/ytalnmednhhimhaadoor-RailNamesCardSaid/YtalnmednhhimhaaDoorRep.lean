/-
  How ints, nodes, trees lie in memory.
-/
import Derived.Test.YtalnmednhhimhaaDoorLex
import Derived.Test.YtalnmednhhimhaaDoorPureA
set_option linter.all false
namespace Go.Bonsai
open Go Go.Sl Go.RowKit

def All2 {α β : Type} (R : α → β → Prop) (l : List α) (m : List β) : Prop := l.length = m.length ∧ ∀ (i : Nat) a b, l[i]? = some a → m[i]? = some b → R a b

section
variable {α β : Type} {R R' : α → β → Prop} {l l' : List α} {m m' : List β}
theorem All2.imp (h : ∀ a b, R a b → R' a b) (hh : All2 R l m) : All2 R' l m := ⟨hh.1, fun i a b ha hb => h a b (hh.2 i a b ha hb)⟩
theorem All2.nil : All2 R [] [] := ⟨rfl, fun i a b h => by simp at h⟩
theorem All2.snoc (h : All2 R l m) {a : α} {b : β} (hr : R a b) : All2 R (l ++ [a]) (m ++ [b]) := by
  refine ⟨by simp [h.1], fun i x y hx hy => ?_⟩
  have hl := h.1
  rcases Nat.lt_trichotomy i l.length with hi | hi | hi
  · rw [List.getElem?_append_left hi] at hx
    rw [List.getElem?_append_left (by omega)] at hy
    exact h.2 i x y hx hy
  · subst hi
    rw [List.getElem?_append_right (by omega)] at hx
    rw [List.getElem?_append_right (by omega)] at hy
    simp at hx
    simp [hl] at hy
    subst hx; subst hy
    exact hr
  · rw [List.getElem?_append_right (by omega), List.getElem?_eq_none (by simp; omega)] at hx
    cases hx
theorem All2.append (h : All2 R l m) (h' : All2 R l' m') : All2 R (l ++ l') (m ++ m') := by
  refine ⟨by simp [h.1, h'.1], fun i x y hx hy => ?_⟩
  have hl := h.1
  rcases Nat.lt_or_ge i l.length with hi | hi
  · rw [List.getElem?_append_left hi] at hx
    rw [List.getElem?_append_left (by omega)] at hy
    exact h.2 i x y hx hy
  · rw [List.getElem?_append_right hi] at hx
    rw [List.getElem?_append_right (by omega)] at hy
    exact h'.2 (i - l.length) x y hx (by rw [hl]; exact hy)
theorem All2.take (h : All2 R l m) (k : Nat) : All2 R (l.take k) (m.take k) := by
  refine ⟨by simp [h.1], fun i x y hx hy => ?_⟩
  rw [List.getElem?_take] at hx hy
  split at hx
  · rename_i hk
    rw [if_pos hk] at hy
    exact h.2 i x y hx hy
  · cases hx
theorem All2.drop (h : All2 R l m) (k : Nat) : All2 R (l.drop k) (m.drop k) := by
  refine ⟨by simp [h.1], fun i x y hx hy => ?_⟩
  rw [List.getElem?_drop] at hx hy
  exact h.2 (k + i) x y hx hy
theorem All2.set (h : All2 R l m) {k : Nat} {a : α} {b : β} (hr : R a b) : All2 R (l.set k a) (m.set k b) := by
  refine ⟨by simp [h.1], fun i x y hx hy => ?_⟩
  have hl := h.1
  rw [List.getElem?_set] at hx hy
  by_cases hki : k = i
  · subst hki
    rw [if_pos rfl] at hx hy
    split at hx
    · injection hx with hx
      rw [if_pos (by omega)] at hy
      injection hy with hy
      subst hx; subst hy
      exact hr
    · cases hx
  · rw [if_neg hki] at hx hy
    exact h.2 i x y hx hy
theorem All2.get (h : All2 R l m) {i : Nat} {b : β} (hb : m[i]? = some b) : ∃ a, l[i]? = some a ∧ R a b := by
  have hi : i < l.length := by rw [h.1]; exact (List.getElem?_eq_some_iff.1 hb).1
  exact ⟨l[i], List.getElem?_eq_getElem hi, h.2 i _ b (List.getElem?_eq_getElem hi) hb⟩
end

/-- rows of one int each -/
def irows (xs : List Int) : List (List Value) := xs.map fun x => [.int .i64 x]
theorem irows_len (xs : List Int) : (irows xs).length = xs.length := by simp [irows]
theorem irows_get {xs : List Int} {i : Nat} {x : Int} (h : xs[i]? = some x) : (irows xs)[i]? = some [.int .i64 x] := by simp [irows, h]
theorem irows_append (xs ys : List Int) : irows (xs ++ ys) = irows xs ++ irows ys := by simp [irows]
theorem irows_one (x : Int) : irows [x] = [[.int .i64 x]] := rfl
theorem irows_set (xs : List Int) (i : Nat) (x : Int) : irows (xs.set i x) = (irows xs).set i [.int .i64 x] := by simp [irows, List.map_set]
theorem irows_rep (k : Nat) : List.replicate k (Value.int .i64 0).cells.toList = irows (List.replicate k 0) := by rw [irows, List.map_replicate]; rfl
theorem irows_oneB (xs : List Int) : ∀ r ∈ irows xs, oneB r = true := by
  intro r hr
  simp [irows] at hr
  obtain ⟨x, _, rfl⟩ := hr
  rfl
theorem irows_sz (xs : List Int) : ∀ r ∈ irows xs, r.length = 1 := by
  intro r hr
  simp [irows] at hr
  obtain ⟨x, _, rfl⟩ := hr
  rfl

def Bts.vals (b : Bts) : List Value := [.int .u64 b.a, .int .u64 b.b, .int .u64 b.c, .int .u64 b.d]
/-- a node's nine cells, its kids' slice being kv -/
def Nod.cells (n : Nod) (kv : Value) : List Value :=
  [.int .u8 n.kind, .int .u64 n.set.a, .int .u64 n.set.b, .int .u64 n.set.c, .int .u64 n.set.d, .string n.text, .int .i64 n.min, .int .i64 n.max, kv]

/-- slices hold so many elements at the most -/
def bigL : Nat := 17592186044416
/-- so many nodes at the most -/
def bigN : Nat := 1466015503701
def Bts.wf (b : Bts) : Prop := (0 ≤ b.a ∧ b.a < 18446744073709551616) ∧ (0 ≤ b.b ∧ b.b < 18446744073709551616) ∧ (0 ≤ b.c ∧ b.c < 18446744073709551616) ∧ (0 ≤ b.d ∧ b.d < 18446744073709551616)
def intsWf (xs : List Int) : Prop := xs.length ≤ bigL ∧ ∀ x ∈ xs, I64 x
structure Nod.wf (n : Nod) : Prop where
  kind : 0 ≤ n.kind ∧ n.kind ≤ 255
  set : n.set.wf
  text : n.text.size ≤ 140737488355328
  min : I64 n.min
  max : I64 n.max
  kids : intsWf n.kids
structure Tre.wf (t : Tre) : Prop where
  len : t.nodes.length ≤ bigN
  nodes : ∀ n ∈ t.nodes, n.wf
  root : I64 t.root

/-- a slice of ints -/
def RInts (S : Nat → Prop) (w : World) (v : Value) (xs : List Int) : Prop := ∃ A c, v = .slice A xs.length c ∧ Arr 1 S w A xs.length (irows xs) ∧ xs.length ≤ c
/-- a node's cells -/
def RNode (S : Nat → Prop) (w : World) (cs : List Value) (n : Nod) : Prop := ∃ kv, cs = n.cells kv ∧ RInts S w kv n.kids
def RNodes (S : Nat → Prop) (w : World) (v : Value) (ns : List Nod) : Prop := ∃ A c rows, v = .slice A ns.length c ∧ Arr 9 S w A ns.length rows ∧ All2 (RNode S w) rows ns ∧ ns.length ≤ c
def RTree (S : Nat → Prop) (w : World) (v : Value) (t : Tre) : Prop := ∃ nv, v = .agg #[nv, .int .i64 t.root] ∧ RNodes S w nv t.nodes

section
variable {S S' : Nat → Prop} {w w' : World} {v : Value} {cs : List Value}
theorem RInts.mono {xs : List Int} (h : ∀ b, S b → S' b) : RInts S w v xs → RInts S' w v xs := fun ⟨A, c, h1, h2, h3⟩ => ⟨A, c, h1, h2.mono h, h3⟩
theorem RInts.loc {xs : List Int} (h : ∀ b, S b → w'.heap[b]? = w.heap[b]?) : RInts S w v xs → RInts S w' v xs := fun ⟨A, c, h1, h2, h3⟩ => ⟨A, c, h1, h2.loc h, h3⟩
theorem RNode.mono {n : Nod} (h : ∀ b, S b → S' b) : RNode S w cs n → RNode S' w cs n := fun ⟨kv, h1, h2⟩ => ⟨kv, h1, h2.mono h⟩
theorem RNode.loc {n : Nod} (h : ∀ b, S b → w'.heap[b]? = w.heap[b]?) : RNode S w cs n → RNode S w' cs n := fun ⟨kv, h1, h2⟩ => ⟨kv, h1, h2.loc h⟩
theorem RNodes.mono {ns : List Nod} (h : ∀ b, S b → S' b) : RNodes S w v ns → RNodes S' w v ns := fun ⟨A, c, rows, h1, h2, h3, h4⟩ => ⟨A, c, rows, h1, h2.mono h, h3.imp fun _ _ => RNode.mono h, h4⟩
theorem RNodes.loc {ns : List Nod} (h : ∀ b, S b → w'.heap[b]? = w.heap[b]?) : RNodes S w v ns → RNodes S w' v ns := fun ⟨A, c, rows, h1, h2, h3, h4⟩ => ⟨A, c, rows, h1, h2.loc h, h3.imp fun _ _ => RNode.loc h, h4⟩
theorem RTree.mono {t : Tre} (h : ∀ b, S b → S' b) : RTree S w v t → RTree S' w v t := fun ⟨nv, h1, h2⟩ => ⟨nv, h1, h2.mono h⟩
theorem RTree.loc {t : Tre} (h : ∀ b, S b → w'.heap[b]? = w.heap[b]?) : RTree S w v t → RTree S w' v t := fun ⟨nv, h1, h2⟩ => ⟨nv, h1, h2.loc h⟩
end

/-- pieces: what is only read -/
def hInts (v : Value) (xs : List Int) : HP := ⟨fun S w => RInts S w v xs, RInts.mono, RInts.loc⟩
def hNode (cs : List Value) (n : Nod) : HP := ⟨fun S w => RNode S w cs n, RNode.mono, RNode.loc⟩
def hTree (v : Value) (t : Tre) : HP := ⟨fun S w => RTree S w v t, RTree.mono, RTree.loc⟩

/-- a reading in the whole of memory -/
abbrev Old (w : World) : Nat → Prop := fun b => b < w.heap.size
section
variable {w0 w : World} {L : List HP}
theorem St.old_ints {v : Value} {xs : List Int} (h : St w0 L w) (hr : RInts (Old w0) w0 v xs) : RInts (Old w) w v xs := (hr.loc (fun b hb => h.below.block b hb)).mono fun _ hb => Nat.lt_of_lt_of_le hb h.below.size
theorem St.old_node {cs : List Value} {n : Nod} (h : St w0 L w) (hr : RNode (Old w0) w0 cs n) : RNode (Old w) w cs n := (hr.loc (fun b hb => h.below.block b hb)).mono fun _ hb => Nat.lt_of_lt_of_le hb h.below.size
theorem St.old_tree {v : Value} {t : Tre} (h : St w0 L w) (hr : RTree (Old w0) w0 v t) : RTree (Old w) w v t := (hr.loc (fun b hb => h.below.block b hb)).mono fun _ hb => Nat.lt_of_lt_of_le hb h.below.size
theorem St.get_ints {v : Value} {xs : List Int} (h : St w0 L w) (ha : At L (hInts v xs)) : RInts (Old w) w v xs := h.at_all ha
theorem St.get_tree {v : Value} {t : Tre} (h : St w0 L w) (ha : At L (hTree v t)) : RTree (Old w) w v t := h.at_all ha
end

/-- an element's cells, out of a slice's reading -/
theorem Ev.elem {P : Program} {n : FD} {s : Sg} {M : World → Prop} {ty : TypeId} {x : Operand} {t sz m i q : Nat} {A : Option Addr} {rows : List (List Value)} {r : List Value} [LN P t sz] {S : World → Nat → Prop}
    (hx : ev s x = some (.pointer (some ((A.getD default).add q)))) (hq : q = i * sz) (hA : ∀ w, M w → Arr sz (S w) w A m rows) (hr : rows[i]? = some r) (hsz : r.length = sz) : Ev P n s M (.load t x) ty (.agg r.toArray) :=
  Ev.loadN hx hsz (fun w hw j v hj => by rw [Sl.add_add, hq]; exact (hA w hw).cell hr hj)
theorem Ev.cell {P : Program} {n : FD} {s : Sg} {M : World → Prop} {ty : TypeId} {x : Operand} {t sz m i o q : Nat} {A : Option Addr} {rows : List (List Value)} {r : List Value} {v : Value} [L1 P t] {S : World → Nat → Prop}
    (hx : ev s x = some (.pointer (some ((A.getD default).add q)))) (hq : q = i * sz + o) (hA : ∀ w, M w → Arr sz (S w) w A m rows) (hr : rows[i]? = some r) (ho : r[o]? = some v) : Ev P n s M (.load t x) ty v :=
  Ev.load1 hx (fun w hw => by rw [hq]; exact (hA w hw).cell hr ho)
theorem Ev.cell0 {P : Program} {n : FD} {s : Sg} {M : World → Prop} {ty : TypeId} {x : Operand} {t sz m i q : Nat} {A : Option Addr} {rows : List (List Value)} {r : List Value} {v : Value} [L1 P t] {S : World → Nat → Prop}
    (hx : ev s x = some (.pointer (some ((A.getD default).add q)))) (hq : q = i * sz) (hA : ∀ w, M w → Arr sz (S w) w A m rows) (hr : rows[i]? = some r) (ho : r[0]? = some v) : Ev P n s M (.load t x) ty v :=
  Ev.load1 hx (fun w hw => by rw [hq]; exact (hA w hw).cell hr ho)
end Go.Bonsai
