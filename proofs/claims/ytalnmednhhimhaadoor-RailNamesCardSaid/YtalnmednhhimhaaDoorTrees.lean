/-
  How slices of trees lie in memory; pieces opened and shut.
-/
import Derived.Test.YtalnmednhhimhaaDoorMoved
set_option linter.all false
namespace Go.Bonsai
open Go Go.Sl Go.RowKit

/-- a tree's two cells -/
def RTreeC (S : Nat → Prop) (w : World) (cs : List Value) (t : Tre) : Prop := ∃ A c, cs = [.slice A t.nodes.length c, .int .i64 t.root] ∧ RNodes S w (.slice A t.nodes.length c) t.nodes
def RTrees (S : Nat → Prop) (w : World) (v : Value) (ts : List Tre) : Prop := ∃ A c rows, v = .slice A ts.length c ∧ Arr 2 S w A ts.length rows ∧ All2 (RTreeC S w) rows ts ∧ ts.length ≤ c
section
variable {S S' : Nat → Prop} {w w' : World} {v : Value} {cs : List Value}
theorem RTreeC.mono {t : Tre} (h : ∀ b, S b → S' b) : RTreeC S w cs t → RTreeC S' w cs t := fun ⟨A, c, h1, h2⟩ => ⟨A, c, h1, h2.mono h⟩
theorem RTreeC.loc {t : Tre} (h : ∀ b, S b → w'.heap[b]? = w.heap[b]?) : RTreeC S w cs t → RTreeC S w' cs t := fun ⟨A, c, h1, h2⟩ => ⟨A, c, h1, h2.loc h⟩
theorem RTrees.mono {ts : List Tre} (h : ∀ b, S b → S' b) : RTrees S w v ts → RTrees S' w v ts := fun ⟨A, c, rows, h1, h2, h3, h4⟩ => ⟨A, c, rows, h1, h2.mono h, h3.imp fun _ _ => RTreeC.mono h, h4⟩
theorem RTrees.loc {ts : List Tre} (h : ∀ b, S b → w'.heap[b]? = w.heap[b]?) : RTrees S w v ts → RTrees S w' v ts := fun ⟨A, c, rows, h1, h2, h3, h4⟩ => ⟨A, c, rows, h1, h2.loc h, h3.imp fun _ _ => RTreeC.loc h, h4⟩
theorem RTreeC.tree {t : Tre} (h : RTreeC S w cs t) : RTree S w (.agg cs.toArray) t := by
  obtain ⟨A, c, rfl, h⟩ := h
  exact ⟨_, rfl, h⟩
theorem RTree.cells {t : Tre} (h : RTree S w v t) : ∃ cs, v = .agg cs.toArray ∧ RTreeC S w cs t := by
  obtain ⟨nv, rfl, A, c, rows, rfl, h⟩ := h
  exact ⟨[.slice A t.nodes.length c, .int .i64 t.root], rfl, A, c, rfl, A, c, rows, rfl, h⟩
end
/-- nodes, opened -/
def hNR (A : Option Addr) (n c : Nat) (rows : List (List Value)) (ns : List Nod) : HP :=
  ⟨fun S w => Arr 9 S w A n rows ∧ (hRows rows ns).on S w ∧ n ≤ c, fun h hh => ⟨hh.1.mono h, HP.mono _ h hh.2.1, hh.2.2⟩, fun h hh => ⟨hh.1.loc h, HP.loc _ h hh.2.1, hh.2.2⟩⟩
/-- a tree's two cells, its nodes in memory of the call's own -/
def treeAt (cs : List Value) (t : Tre) : HP :=
  ⟨fun S w => ∃ A c, cs = [.slice A t.nodes.length c, .int .i64 t.root] ∧ NodesF S w (.slice A t.nodes.length c) t.nodes, fun h ⟨A, c, h1, h2⟩ => ⟨A, c, h1, h2.mono h⟩, fun h ⟨A, c, h1, h2⟩ => ⟨A, c, h1, h2.loc h⟩⟩
def treePs : List (List Value) → List Tre → List HP
  | r :: rs, t :: ts => treeAt r t :: treePs rs ts
  | _, _ => []
theorem treePs_snoc {r : List Value} {t : Tre} : ∀ {rs : List (List Value)} {ts : List Tre}, rs.length = ts.length → treePs (rs ++ [r]) (ts ++ [t]) = treePs rs ts ++ [treeAt r t]
  | [], [], _ => rfl
  | _ :: rs, _ :: ts, h => by simp only [List.cons_append, treePs, treePs_snoc (rs := rs) (ts := ts) (by simpa using h)]
def hTR (rows : List (List Value)) (ts : List Tre) : HP :=
  ⟨fun S w => rows.length = ts.length ∧ Sep (treePs rows ts) S w, fun h hh => ⟨hh.1, hh.2.keep h (fun _ _ => rfl)⟩, fun h hh => ⟨hh.1, hh.2.keep (fun _ hb => hb) h⟩⟩
theorem treePs_get {w : World} : ∀ {rows : List (List Value)} {ts : List Tre} {S : Nat → Prop}, Sep (treePs rows ts) S w → ∀ (i : Nat) r t, rows[i]? = some r → ts[i]? = some t → RTreeC S w r t
  | [], _, _, _, i, r, t, h, _ => by simp at h
  | _ :: _, [], _, _, i, r, t, _, h => by simp at h
  | r0 :: rs, t0 :: ts, S, ⟨S1, h1, ⟨A, c, h2, h3⟩, h4⟩, 0, r, t, hr, ht => by
    simp at hr ht
    subst hr; subst ht
    exact ⟨A, c, h2, (NodesF.mono h1 h3).nodes⟩
  | r0 :: rs, t0 :: ts, S, ⟨S1, h1, h2, h4⟩, i + 1, r, t, hr, ht =>
    (treePs_get h4 i r t (by simpa using hr) (by simpa using ht)).mono fun _ hb => hb.1
theorem hTR_all {S : Nat → Prop} {w : World} {rows : List (List Value)} {ts : List Tre} (h : (hTR rows ts).on S w) : All2 (RTreeC S w) rows ts := ⟨h.1, treePs_get h.2⟩
/-- trees in memory of the call's own, each apart -/
def hTrees (v : Value) (ts : List Tre) : HP :=
  ⟨fun S w => ∃ e A c rows, ∃ S1 : Nat → Prop, v = .slice A ts.length c ∧ (∀ b, S1 b → S b) ∧ (own e 2 A ts.length c rows).on S1 w ∧ (hTR rows ts).on (fun b => S b ∧ ¬ S1 b) w,
    fun h ⟨e, A, c, rows, S1, h1, h2, h3, h4⟩ => ⟨e, A, c, rows, S1, h1, fun b hb => h b (h2 b hb), h3, HP.mono _ (fun b hb => ⟨h b hb.1, hb.2⟩) h4⟩,
    fun h ⟨e, A, c, rows, S1, h1, h2, h3, h4⟩ => ⟨e, A, c, rows, S1, h1, h2, HP.loc _ (fun b hb => h b (h2 b hb)) h3, HP.loc _ (fun b hb => h b hb.1) h4⟩⟩
theorem hTrees_on {S : Nat → Prop} {w : World} {v : Value} {ts : List Tre} (h : (hTrees v ts).on S w) : RTrees S w v ts := by
  obtain ⟨e, A, c, rows, S1, h1, h2, h3, h4⟩ := h
  exact ⟨A, c, rows, h1, (own.arr h3).mono h2, (hTR_all h4).imp fun _ _ => RTreeC.mono fun b hb => hb.1, own.cap h3⟩
theorem hTrees_nil {S : Nat → Prop} {w : World} : (hTrees (.slice none 0 0) []).on S w := ⟨0, none, 0, [], fun _ => False, rfl, fun _ h => h.elim, own_nil 0 2, rfl, trivial⟩

theorem rows_oneB {S : Nat → Prop} {w : World} {rows : List (List Value)} {ns : List Nod} (hf : (hRows rows ns).on S w) : ∀ r ∈ rows, oneB r = true := by
  have h := (hRows_all hf).imp fun _ _ => RNodeF.node
  intro r hr
  obtain ⟨i, hi⟩ := List.mem_iff_getElem?.1 hr
  have hlt := (List.getElem?_eq_some_iff.1 hi).1
  have hl := h.1
  obtain ⟨kv, rfl, A', c', rfl, _⟩ := h.2 i r _ hi (List.getElem?_eq_getElem (by omega))
  rfl
theorem hRows_append {A : Option Addr} {m c : Nat} {rows rows2 : List (List Value)} {out ns2 : List Nod} {S S' : Nat → Prop} {w : World} (h : (hRows rows out).on S w) (h' : (hNR A m c rows2 ns2).on S' w) (hd : ∀ b, S b → ¬ S' b) :
    (hRows (rows ++ rows2) (out ++ ns2)).on (fun b => S b ∨ S' b) w := by
  refine ⟨by simp [h.1, h'.2.1.1], ?_⟩
  rw [kidPs_app _ _ h.1]
  exact Sep.append h.2 h'.2.1.2 (fun _ h => .inl h) (fun _ h => .inr h) hd
section
variable {w0 w : World} {L L' : List HP}
theorem St.old_trees {v : Value} {ts : List Tre} (h : St w0 L w) (hr : RTrees (Old w0) w0 v ts) : RTrees (Old w) w v ts := (hr.loc (fun b hb => h.below.block b hb)).mono fun _ hb => Nat.lt_of_lt_of_le hb h.below.size
theorem St.old_treeC {cs : List Value} {t : Tre} (h : St w0 L w) (hr : RTreeC (Old w0) w0 cs t) : RTreeC (Old w) w cs t := (hr.loc (fun b hb => h.below.block b hb)).mono fun _ hb => Nat.lt_of_lt_of_le hb h.below.size
theorem St.old_nodes {v : Value} {ns : List Nod} (h : St w0 L w) (hr : RNodes (Old w0) w0 v ns) : RNodes (Old w) w v ns := (hr.loc (fun b hb => h.below.block b hb)).mono fun _ hb => Nat.lt_of_lt_of_le hb h.below.size
theorem St.get_nodes {v : Value} {ns : List Nod} (h : St w0 L w) (ha : At L (hNodes v ns)) : RNodes (Old w) w v ns := NodesF.nodes (h.at_all ha)
theorem St.get_treeN {A : Option Addr} {c : Nat} {t : Tre} (h : St w0 L w) (ha : At L (hNodes (.slice A t.nodes.length c) t.nodes)) : RTree (Old w) w (.agg #[.slice A t.nodes.length c, .int .i64 t.root]) t := ⟨_, rfl, NodesF.nodes (h.at_all ha)⟩
theorem St.weakEx {ι : Sort _} {H : HP} {H' : ι → HP} (hi : ∀ S w, H.on S w → ∃ x, (H' x).on S w) (h : St w0 (H :: L) w) : ∃ x, St w0 (H' x :: L) w := by
  obtain ⟨hb, S1, h1, h2, h3⟩ := h
  obtain ⟨x, hx⟩ := hi _ _ h2
  exact ⟨x, hb, S1, h1, hx, h3⟩
theorem St.openN {A : Option Addr} {n c : Nat} {ns : List Nod} (hd : Del L (hNodes (.slice A n c) ns) L') (h : St w0 L w) : ∃ rows, St w0 (hNR A n c rows ns :: L') w := by
  refine St.weakEx (fun S w h => ?_) (h.del hd)
  obtain ⟨ty, A', c', rows, S1, e, hs, h1, h2⟩ := h
  injection e with e1 e2 e3
  subst e1; subst e2; subst e3
  exact ⟨rows, (own.arr h1).mono hs, HP.mono _ (fun _ hb => hb.1) h2, own.cap h1⟩
end
section
variable {P : Program} {ops : Array Oper} {Q : Exit → Act → World → Prop} {rest : List Oper} {n : FD} {s : Sg} {w0 : World} {L L' : List HP} {c : Code} {e : Exit}
theorem T.openN {A : Option Addr} {m c : Nat} {ns : List Nod} (hd : Del L (hNodes (.slice A m c) ns) L') (k : ∀ rows, T P ops Q rest n s (St w0 (hNR A m c rows ns :: L'))) : T P ops Q rest n s (St w0 L) :=
  T.ex (fun w hw => St.openN hd hw) k
theorem TC.openN {A : Option Addr} {m cc : Nat} {ns : List Nod} (hd : Del L (hNodes (.slice A m cc) ns) L') (k : ∀ rows, TC P c Q n s (St w0 (hNR A m cc rows ns :: L'))) : TC P c Q n s (St w0 L) :=
  TC.ex (fun w hw => St.openN hd hw) k
end

/-! ### sizes of what is taken -/
theorem Nod.zero_wf : Nod.zero.wf := ⟨by decide, by unfold Bts.wf; decide, by decide, by unfold I64; decide, by unfold I64; decide, ⟨by decide, by simp [Nod.zero]⟩⟩
theorem takenGo_wf {ns : List Nod} (hn : ∀ n ∈ ns, n.wf) : ∀ (l : List Int) (i : Nat) (pl : List Int), (∀ x ∈ pl, 0 ≤ x ∧ x < (bigN : Int)) → i + l.length ≤ bigN → ∀ n ∈ takenGo ns i pl l, n.wf ∧ ∀ k ∈ n.kids, 0 ≤ k ∧ k < (bigN : Int)
  | [], _, _, _, _, n, h => by simp [takenGo] at h
  | k :: l, i, pl, hp, hi, n, h => by
    simp only [List.length_cons] at hi
    have hp' : ∀ x ∈ pl.set k.toNat (i : Int), 0 ≤ x ∧ x < (bigN : Int) := by
      intro x hx
      rcases List.mem_or_eq_of_mem_set hx with hx | rfl
      · exact hp x hx
      · omega
    simp only [takenGo, List.mem_cons] at h
    rcases h with rfl | h
    · have hz : (ns.getD k.toNat .zero).wf := by
        rw [List.getD_eq_getElem?_getD]
        cases hg : ns[k.toNat]? with
        | some m => exact hn m (List.mem_of_getElem? hg)
        | none => exact Nod.zero_wf
      have hk : ∀ y ∈ (ns.getD k.toNat .zero).kids.map (fun x => (pl.set k.toNat (i : Int)).getD x.toNat 0), 0 ≤ y ∧ y < (bigN : Int) := by
        intro y hy
        obtain ⟨x, hx, rfl⟩ := List.mem_map.1 hy
        rw [List.getD_eq_getElem?_getD]
        cases hg : (pl.set k.toNat (i : Int))[x.toNat]? with
        | some z => exact hp' z (List.mem_of_getElem? hg)
        | none => exact ⟨by decide, by decide⟩
      exact ⟨⟨hz.kind, hz.set, hz.text, hz.min, hz.max, by simpa using hz.kids.1, fun y hy => by have := hk y hy; unfold I64; unfold bigN at this; omega⟩, hk⟩
    · exact takenGo_wf hn l (i + 1) _ hp' (by omega) n h
theorem takenP_wf {t : Tre} (ht : t.wf) (h : RightT t) {node : Int} (h0 : 0 ≤ node) (hn : node < t.nodes.length) : (takenP t node).wf ∧ ∀ n ∈ (takenP t node).nodes, ∀ k ∈ n.kids, 0 ≤ k ∧ k < (bigN : Int) := by
  have hb := behind_len h h0 hn
  have hl := ht.len
  have hw := takenGo_wf ht.nodes (behindP t node) 0 (List.replicate t.nodes.length 0) (fun x hx => by rw [List.eq_of_mem_replicate hx]; exact ⟨by decide, by decide⟩) (by omega)
  refine ⟨⟨?_, fun n hn => (hw n hn).1, ?_⟩, fun n hn => (hw n hn).2⟩
  · show (takenGo _ _ _ _).length ≤ bigN
    rw [takenGo_length]; omega
  · show I64 (((behindP t node).length : Int) - 1)
    unfold bigN at hl
    unfold I64; omega
theorem takenP_len {t : Tre} (h : RightT t) {node : Int} (h0 : 0 ≤ node) (hn : node < t.nodes.length) : (takenP t node).nodes.length ≤ t.nodes.length := by
  show (takenGo _ _ _ _).length ≤ _
  rw [takenGo_length]; exact behind_len h h0 hn
end Go.Bonsai
