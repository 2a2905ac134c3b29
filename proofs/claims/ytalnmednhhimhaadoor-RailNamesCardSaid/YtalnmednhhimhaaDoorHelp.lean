/-
  The law's own helpers: nots, long.
-/
import Derived.Test.YtalnmednhhimhaaDoorFoD
set_option linter.all false
namespace Go.Bonsai
open Go Go.Sl Go.RowKit
theorem RTrees.one {S S' : Nat → Prop} {w : World} {A B : Option Addr} {c d e : Nat} {t : Tre} {v : Int} (hv : v = t.root) (h : (own e 2 A 1 c [[.slice B t.nodes.length d, .int .i64 v]]).on S w) (h' : RNodes S' w (.slice B t.nodes.length d) t.nodes) : RTrees (fun b => S b ∨ S' b) w (.slice A 1 c) [t] := by
  subst hv
  exact ⟨A, c, _, rfl, (own.arr h).mono fun _ h => .inl h, All2.snoc (l := []) (m := []) .nil ⟨B, d, rfl, h'.mono fun _ h => .inr h⟩, own.cap h⟩
def totK (l : List Tre) : Nat := (l.map fun t => (allKids t.nodes).length).sum
/-- so many trees, nodes, and kids, in all -/
def Small (l : List Tre) : Prop := l.length + tot l + totK l < 4000
theorem totK_take (l : List Tre) (i : Nat) (h : i < l.length) : totK (l.take (i + 1)) = totK (l.take i) + (allKids l[i].nodes).length := by
  rw [List.take_succ_eq_append_getElem h]
  simp only [totK, List.map_append, List.sum_append, List.map_cons, List.map_nil, List.sum_cons, List.sum_nil, Nat.add_zero]
theorem totK_le {l : List Tre} {t : Tre} (h : t ∈ l) : (allKids t.nodes).length ≤ totK l := by
  induction l with
  | nil => cases h
  | cons x l ih =>
    simp only [totK, List.map_cons, List.sum_cons]
    rcases List.mem_cons.1 h with rfl | h
    · omega
    · have := ih h
      unfold totK at this
      omega
theorem allKids_takeL {ns : List Nod} {i : Nat} {n : Nod} (h : ns[i]? = some n) : (allKids (ns.take (i + 1))).length = (allKids (ns.take i)).length + n.kids.length := by
  obtain ⟨hi, he⟩ := List.getElem?_eq_some_iff.1 h
  rw [List.take_succ_eq_append_getElem hi, he]
  simp [allKids]
theorem tot_take (l : List Tre) (i : Nat) (h : i < l.length) : tot (l.take (i + 1)) = tot (l.take i) + l[i].nodes.length := by
  rw [List.take_succ_eq_append_getElem h]
  simp only [tot, List.map_append, List.sum_append, List.map_cons, List.map_nil, List.sum_cons, List.sum_nil, Nat.add_zero]
theorem RTrees.old1b {w0 w : World} {L : List HP} {A : Option Addr} {c e : Nat} {B : Nat} {t : Tre} (hw : St w0 L w) (ha : At L (own e 2 (some ⟨B, 0, none⟩) 1 1 [[.slice A t.nodes.length c, .int .i64 t.root]])) (hr : RTreeC (Old w0) w0 [.slice A t.nodes.length c, .int .i64 t.root] t) :
    RTrees (Old w) w (.slice (some ⟨B, 0, none⟩) 1 1) [t] :=
  ⟨some ⟨B, 0, none⟩, 1, _, rfl, St.own_arr hw ha, All2.snoc (l := []) (m := []) .nil (St.old_treeC hw hr), Nat.le_refl _⟩
theorem RNode.old {w0 w : World} {L : List HP} {cs : List Value} {n : Nod} (hw : St w0 L w) (h : RNode (Old w0) w0 cs n) : RNode (Old w) w cs n :=
  (RNode.loc (fun b hb => hw.below.block b hb) h).mono fun _ hb => Nat.lt_of_lt_of_le hb hw.below.size
/-- the tree of one node, laid just now -/
theorem RNodes.one {w0 w : World} {L : List HP} {e B : Nat} {n : Nod} {cs : List Value} (hw : St w0 L w) (ha : At L (own e 9 (some ⟨B, 0, none⟩) 1 1 [cs])) (hr : RNode (Old w) w cs n) : RNodes (Old w) w (.slice (some ⟨B, 0, none⟩) 1 1) [n] :=
  ⟨some ⟨B, 0, none⟩, 1, [cs], rfl, St.own_arr hw ha, All2.snoc (l := []) (m := []) .nil hr, Nat.le_refl _⟩
theorem RTrees.oneN {w0 w : World} {L : List HP} {e e' B B' : Nat} {n : Nod} {cs : List Value} (hw : St w0 L w) (ha : At L (own e 9 (some ⟨B, 0, none⟩) 1 1 [cs])) (ha' : At L (own e' 2 (some ⟨B', 0, none⟩) 1 1 [[.slice (some ⟨B, 0, none⟩) 1 1, .int .i64 0]])) (hr : RNode (Old w) w cs n) :
    RTrees (Old w) w (.slice (some ⟨B', 0, none⟩) 1 1) [⟨[n], 0⟩] :=
  ⟨some ⟨B', 0, none⟩, 1, _, rfl, St.own_arr hw ha', All2.snoc (l := []) (m := []) .nil ⟨some ⟨B, 0, none⟩, 1, rfl, RNodes.one hw ha hr⟩, Nat.le_refl _⟩
theorem St.dropL {w0 w : World} {K L : List HP} (h : St w0 (K ++ L) w) : St w0 L w := by
  have := h.drop K.length
  rwa [List.drop_left] at this
section
variable {P : Program} {C : World → Prop} {ops : Array Oper} {ks : Nat → Kd} {Q : Exit → Act → World → Prop} {i : Nat} {rest : List Oper} {n : FD} {s : Sg} {ty : TypeId} {pos : String} {af : Array Edge} {d : Nat} {v : Value} {w0 : World} {L : List HP}
theorem TL.kcallV {f : FuncId} {xs : List Operand} {vs : List Value} {tys : Array TypeId} [hf' : CF P f] (hxs : evs s xs = some vs) (h : ∀ w, St w0 L w → Calls P f vs.toArray w (RetV w v)) (hd : Nat.blt d n.sz = true) (hk : ks i = .keep) (hC : ∀ w, St w0 L w → C w)
    (k : TL P C ops ks Q (i + 1) rest n ((d, v) :: s) (St w0 L)) : TL P C ops ks Q i (⟨some d, .call { callee := .value (.func f), args := xs.toArray, argTypes := tys }, ty, pos, af, none⟩ :: rest) n s (St w0 L) :=
  TL.kcall hd hk hC (Cl.callV hxs h) (fun _ w hw => hC w hw) (fun _ => k)
theorem TL.kcallR {ι : Sort _} {val : ι → Value} {HL : ι → List HP} {p : ι → Prop} {f : FuncId} {xs : List Operand} {vs : List Value} {tys : Array TypeId} [hf' : CF P f] (hxs : evs s xs = some vs) (h : ∀ w, St w0 L w → Calls P f vs.toArray w (Ret w val HL p)) (hd : Nat.blt d n.sz = true) (hk : ks i = .keep) (hC : ∀ w, St w0 L w → C w)
    (k : ∀ x, p x → TL P C ops ks Q (i + 1) rest n ((d, val x) :: s) (St w0 (HL x ++ L))) : TL P C ops ks Q i (⟨some d, .call { callee := .value (.func f), args := xs.toArray, argTypes := tys }, ty, pos, af, none⟩ :: rest) n s (St w0 L) :=
  TL.kcall hd hk hC (Cl.callR hxs h) (fun _ w hw => hC w (St.dropL hw)) (fun x => k x.1 x.2)
end
end Go.Bonsai
namespace Go.Proofs.YtalnmednhhimhaaDoor
open Go Go.Sl Go.RowKit Go.Bonsai
set_option linter.unusedVariables false
set_option linter.unusedSimpArgs false

end Go.Proofs.YtalnmednhhimhaaDoor
