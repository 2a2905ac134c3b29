/-
  Trees in arenas, as plain lists: what the layer's functions come to.
-/
import Derived.Test.YtlhkkngpppcfoaaDoorNamePure
set_option linter.all false
namespace Go.Bonsai

structure Bts where
  a : Int
  b : Int
  c : Int
  d : Int
deriving DecidableEq

structure Nod where
  kind : Int
  set : Bts
  text : ByteArray
  min : Int
  max : Int
  kids : List Int
deriving DecidableEq

structure Tre where
  nodes : List Nod
  root : Int
deriving DecidableEq

def Bts.zero : Bts := ⟨0, 0, 0, 0⟩
def Nod.zero : Nod := ⟨0, .zero, ⟨#[]⟩, 0, 0, []⟩
def Tre.zero : Tre := ⟨[], 0⟩

/-- least and greatest number of kids, by kind -/
def counts : List (Int × Int) := [(0, 0), (0, 0), (0, 0), (0, 0), (2, -1), (2, -1), (1, 1), (1, 1), (1, 1), (1, 1)]

/-- P4.1: a node is as its kind says -/
def fits (n : Nod) (kids : Int) : Bool :=
  if n.kind = 0 then decide (n.set = .zero) && decide (n.text = ⟨#[]⟩) && decide (n.min = 0) && decide (n.max = 0) && decide (kids = 0)
  else if n.kind = 1 then decide (n.text = ⟨#[]⟩) && decide (n.min = 0) && decide (n.max = 0) && decide (kids = 0)
  else if n.kind = 2 then decide (n.set = .zero) && decide (n.min = 0) && decide (n.max = 0) && decide (kids = 0) && !decide (n.text = ⟨#[]⟩) && decide ((n.text.size : Int) ≤ 255)
  else if n.kind = 3 then decide (n.set = .zero) && decide (n.min = 0) && decide (n.max = 0) && decide (kids = 0) && mayB n.text
  else if n.kind = 4 ∨ n.kind = 5 then decide (n.set = .zero) && decide (n.text = ⟨#[]⟩) && decide (n.min = 0) && decide (n.max = 0) && decide (2 ≤ kids)
  else if n.kind = 6 then decide (n.set = .zero) && decide (n.text = ⟨#[]⟩) && decide (kids = 1) && decide (0 ≤ n.min) && decide (n.min ≤ 99) && (decide (n.max = -1) || decide (n.min ≤ n.max) && decide (n.max ≤ 99))
  else if n.kind = 7 ∨ n.kind = 8 then decide (n.set = .zero) && decide (n.text = ⟨#[]⟩) && decide (n.min = 0) && decide (n.max = 0) && decide (kids = 1)
  else if n.kind = 9 then decide (n.set = .zero) && decide (n.min = 0) && decide (n.max = 0) && decide (kids = 1) && mayB n.text
  else false

/-- all kids' numbers, in the arena's order -/
def allKids (l : List Nod) : List Int := l.flatMap (·.kids)
/-- node number i, behind the first i ones -/
def nodeOk (i : Nat) (n : Nod) : Bool := fits n n.kids.length && n.kids.all fun k => decide (0 ≤ k) && decide (k < i)
def nodesOk : Nat → List Nod → Bool
  | _, [] => true
  | i, n :: l => nodeOk i n && nodesOk (i + 1) l
/-- P4.1 -/
def right (t : Tre) : Bool :=
  decide (0 ≤ t.root) && decide (t.root < t.nodes.length) && nodesOk 0 t.nodes &&
    (List.range t.nodes.length).all fun i => decide ((allKids t.nodes).count (i : Int) = if (i : Int) = t.root then 0 else 1)
end Go.Bonsai
namespace Go.Bonsai
def takeKids (i : Int) : List Int → List Bool → Option (List Bool)
  | [], tk => some tk
  | k :: l, tk => if k < 0 ∨ i ≤ k ∨ tk.getD k.toNat false = true then none else takeKids i l (tk.set k.toNat true)
def takeNodes : Nat → List Nod → List Bool → Option (List Bool)
  | _, [], tk => some tk
  | i, n :: l, tk => if fits n n.kids.length = true then (takeKids i n.kids tk).bind (takeNodes (i + 1) l) else none
/-- what the code of Right comes to -/
def rightP (t : Tre) : Bool :=
  decide (0 ≤ t.root) && decide (t.root < t.nodes.length) && match takeNodes 0 t.nodes (List.replicate t.nodes.length false) with
    | none => false
    | some tk => (List.range t.nodes.length).all fun i => !(tk.getD i false == decide ((i : Int) = t.root))
theorem takeKids_len (i : Int) : ∀ (l : List Int) (tk tk' : List Bool), takeKids i l tk = some tk' → tk'.length = tk.length
  | [], tk, tk', h => by simp [takeKids] at h; rw [h]
  | k :: l, tk, tk', h => by
    unfold takeKids at h
    split at h
    · cases h
    · have := takeKids_len i l _ _ h
      simpa using this
end Go.Bonsai
