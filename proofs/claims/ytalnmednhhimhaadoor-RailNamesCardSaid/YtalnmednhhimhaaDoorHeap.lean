/-
  Pieces joined to trees.
-/
import Derived.Test.YtalnmednhhimhaaDoorFacts
import Derived.Test.YtalnmednhhimhaaDoorRep
set_option linter.all false
namespace Go.Sl
open Go.RowKit
theorem St.weak {w0 w : World} {H H' : HP} {L : List HP} (hi : ∀ S w, H.on S w → H'.on S w) (h : St w0 (H :: L) w) : St w0 (H' :: L) w := by
  obtain ⟨hb, S1, h1, h2, h3⟩ := h
  exact ⟨hb, S1, h1, hi _ _ h2, h3⟩
theorem St.join {w0 w : World} {H H' K : HP} {L : List HP} (hi : ∀ S S' w, H.on S w → H'.on S' w → K.on (fun b => S b ∨ S' b) w) (h : St w0 (H :: H' :: L) w) : St w0 (K :: L) w := by
  obtain ⟨hb, S1, h1, h2, S2, h3, h4, h5⟩ := h
  refine ⟨hb, fun b => S1 b ∨ S2 b, fun b hb => ?_, hi _ _ _ h2 h4, h5.keep (fun b hb => ⟨hb.1.1, fun h => ?_⟩) (fun _ _ => rfl)⟩
  · rcases hb with hb | hb
    · exact h1 b hb
    · exact (h3 b hb).1
  · rcases h with h | h
    · exact hb.1.2 h
    · exact hb.2 h
theorem St.joinX {w0 w : World} {H H' K : HP} {L : List HP} (hi : ∀ S S' w, H.on S w → H'.on S' w → (∀ b, S b → ¬ S' b) → K.on (fun b => S b ∨ S' b) w) (h : St w0 (H :: H' :: L) w) : St w0 (K :: L) w := by
  obtain ⟨hb, S1, h1, h2, S2, h3, h4, h5⟩ := h
  refine ⟨hb, fun b => S1 b ∨ S2 b, fun b hb => ?_, hi _ _ _ h2 h4 (fun b hb1 hb2 => (h3 b hb2).2 hb1), h5.keep (fun b hb => ⟨hb.1.1, fun h => ?_⟩) (fun _ _ => rfl)⟩
  · rcases hb with hb | hb
    · exact h1 b hb
    · exact (h3 b hb).1
  · rcases h with h | h
    · exact hb.1.2 h
    · exact hb.2 h
theorem St.weakAt {w0 w : World} {H H' : HP} {L L' : List HP} (hu : Upd L H H' L') (hi : ∀ S w, H.on S w → H'.on S w) (h : St w0 L w) : St w0 L' w := by
  obtain ⟨S1, g1, g2, g3⟩ := h.upd hu
  exact g3 S1 w Chg.refl (fun b hb => .inl hb) (hi _ _ g2)
theorem own.arr' {e sz n c : Nat} {A : Option Addr} {rows : List (List Value)} {S : Nat → Prop} {w : World} (h : (own e sz A n c rows).on S w) : Arr sz S w A n rows := own.arr h
theorem own.cap {e sz n c : Nat} {A : Option Addr} {rows : List (List Value)} {S : Nat → Prop} {w : World} (h : (own e sz A n c rows).on S w) : n ≤ c := by
  obtain ⟨⟨hl, hc⟩, h2, h3, h4⟩ := h
  rcases hc with ⟨hv, h0⟩ | ⟨g, cap, cur, hv, hg, hw, hr1, hr2, hr3, hr4⟩
  · injection hv with hA hn hcc
    omega
  · injection hv with hA hn hcc
    omega
theorem take_rows {sz : Nat} : ∀ (rows : List (List Value)) (m : Nat), (∀ r ∈ rows, r.length = sz) → rows.flatten.take (m * sz) = (rows.take m).flatten
  | [], m, _ => by simp
  | r :: l, 0, _ => by simp
  | r :: l, m + 1, h => by
    have hr := h r (by simp)
    have ih := take_rows l m (fun x hx => h x (by simp [hx]))
    rw [List.flatten_cons, List.take_append, List.take_succ_cons, List.flatten_cons, ← ih, List.take_of_length_le (l := r) (by rw [hr, Nat.add_mul]; omega)]
    congr 2
    rw [hr, Nat.add_mul]
    omega
/-- the first m of a slice of one's own -/
theorem own.take {e sz n c m : Nat} {A : Option Addr} {rows : List (List Value)} {S : Nat → Prop} {w : World} (hm : m ≤ n) (h : (own e sz A n c rows).on S w) : (own e sz A m c (rows.take m)).on S w := by
  obtain ⟨⟨hl, hc⟩, h2, h3, h4⟩ := h
  have hrs : ∀ r ∈ rows.take m, r.length = sz := fun r hr => h3 r (List.mem_of_mem_take hr)
  have hrl : (rows.take m).length = m := by simp; omega
  refine ⟨⟨?_, ?_⟩, hrl, hrs, ?_⟩
  · rw [length_flatten hrs, hrl]
  · rcases hc with ⟨hv, h0⟩ | ⟨g, cap, cur, hv, hg, hw, hr1, hr2, hr3, hr4⟩
    · injection hv with hA hn hcc
      subst hA
      subst hcc
      have : m = 0 := by omega
      subst this
      exact .inl ⟨rfl, rfl⟩
    · injection hv with hA hn hcc
      subst hA
      subst hcc
      refine .inr ⟨g, c, cur, rfl, hg, hw, by omega, hr2, hr3, ?_⟩
      have hle : m * sz ≤ n * sz := Nat.mul_le_mul_right sz hm
      rw [← take_rows rows m h3, ← hr4, List.take_take, Nat.min_eq_left hle]
  · intro g hg
    refine h4 g ?_
    cases A with
    | none => simp [Value.ownBlock] at hg
    | some a => simpa [Value.ownBlock] using hg
section
variable {P : Program} {C : World → Prop} {ops : Array Oper} {ks : Nat → Kd} {Q : Exit → Act → World → Prop} {i : Nat} {rest : List Oper} {n : FD} {s : Sg} {M M' : World → Prop} {c : Code} {e : Exit}
theorem T.sub (h : ∀ w, M w → M' w) (k : T P ops Q rest n s M') : T P ops Q rest n s M := ⟨fun a w hf hm => k.go a w hf (h w hm)⟩
theorem TC.sub (h : ∀ w, M w → M' w) (k : TC P c Q n s M') : TC P c Q n s M := ⟨fun a w hf hm => k.go a w hf (h w hm)⟩
theorem TL.sub (h : ∀ w, M w → M' w) (k : TL P C ops ks Q i rest n s M') : TL P C ops ks Q i rest n s M := ⟨fun a w hf hm => k.go a w hf (h w hm)⟩
/-- a fact that each such world tells -/
theorem TC.fact {φ : Prop} (h : ∀ w, M w → φ) (k : φ → TC P c Q n s M) : TC P c Q n s M := ⟨fun a w hf hm => (k (h w hm)).go a w hf hm⟩
theorem T.fact {φ : Prop} (h : ∀ w, M w → φ) (k : φ → T P ops Q rest n s M) : T P ops Q rest n s M := ⟨fun a w hf hm => (k (h w hm)).go a w hf hm⟩
theorem TL.fact {φ : Prop} (h : ∀ w, M w → φ) (k : φ → TL P C ops ks Q i rest n s M) : TL P C ops ks Q i rest n s M := ⟨fun a w hf hm => (k (h w hm)).go a w hf hm⟩
theorem TX.sub (h : ∀ w, M w → M' w) (k : TX Q e n s M') : TX Q e n s M := ⟨fun a w hf hm => k.go a w hf (h w hm)⟩
end
end Go.Sl
namespace Go.Bonsai
open Go Go.Sl Go.RowKit
/-- a node without kids -/
theorem RNode.leaf {S : Nat → Prop} {w : World} {n : Nod} (h : n.kids = []) : RNode S w (n.cells (.slice none 0 0)) n :=
  ⟨_, rfl, by rw [h]; exact ⟨none, 0, rfl, ⟨rfl, by simp [irows], by simp⟩, by simp⟩⟩
/-- a node's cells, its kids in memory of the call's own -/
def RNodeF (S : Nat → Prop) (w : World) (cs : List Value) (n : Nod) : Prop := ∃ e A c, cs = n.cells (.slice A n.kids.length c) ∧ (own e 1 A n.kids.length c (irows n.kids)).on S w
theorem RNodeF.mono {S S' : Nat → Prop} {w : World} {cs : List Value} {n : Nod} (h : ∀ b, S b → S' b) : RNodeF S w cs n → RNodeF S' w cs n := fun ⟨e, A, c, h1, h2⟩ => ⟨e, A, c, h1, HP.mono _ h h2⟩
theorem RNodeF.loc {S : Nat → Prop} {w w' : World} {cs : List Value} {n : Nod} (h : ∀ b, S b → w'.heap[b]? = w.heap[b]?) : RNodeF S w cs n → RNodeF S w' cs n := fun ⟨e, A, c, h1, h2⟩ => ⟨e, A, c, h1, HP.loc _ h h2⟩
theorem RNodeF.node {S : Nat → Prop} {w : World} {cs : List Value} {n : Nod} : RNodeF S w cs n → RNode S w cs n := fun ⟨e, A, c, h1, h2⟩ => ⟨_, h1, A, c, rfl, own.arr h2, own.cap h2⟩
/-- one node's kids, by its cells -/
def kidAt (cs : List Value) (n : Nod) : HP := ⟨fun S w => RNodeF S w cs n, RNodeF.mono, RNodeF.loc⟩
def kidPs : List (List Value) → List Nod → List HP
  | r :: rs, n :: ns => kidAt r n :: kidPs rs ns
  | _, _ => []
theorem kidPs_app : ∀ {rs : List (List Value)} {ns : List Nod} (rs2 : List (List Value)) (ns2 : List Nod), rs.length = ns.length → kidPs (rs ++ rs2) (ns ++ ns2) = kidPs rs ns ++ kidPs rs2 ns2
  | [], [], _, _, _ => rfl
  | _ :: rs, _ :: ns, rs2, ns2, h => by simp only [List.cons_append, kidPs, kidPs_app (rs := rs) (ns := ns) rs2 ns2 (by simpa using h)]
theorem kidPs_get {w : World} : ∀ {rows : List (List Value)} {ns : List Nod} {S : Nat → Prop}, Sep (kidPs rows ns) S w → ∀ (i : Nat) r n, rows[i]? = some r → ns[i]? = some n → RNodeF S w r n
  | [], _, _, _, i, r, t, h, _ => by simp at h
  | _ :: _, [], _, _, i, r, t, _, h => by simp at h
  | r0 :: rs, t0 :: ts, S, ⟨S1, h1, h2, h4⟩, 0, r, t, hr, ht => by
    simp at hr ht
    subst hr; subst ht
    exact RNodeF.mono h1 h2
  | r0 :: rs, t0 :: ts, S, ⟨S1, h1, h2, h4⟩, i + 1, r, t, hr, ht =>
    (kidPs_get h4 i r t (by simpa using hr) (by simpa using ht)).mono fun _ hb => hb.1
/-- nodes' kids, each apart, by the nodes' cells -/
def hRows (rows : List (List Value)) (ns : List Nod) : HP :=
  ⟨fun S w => rows.length = ns.length ∧ Sep (kidPs rows ns) S w, fun h hh => ⟨hh.1, hh.2.keep h (fun _ _ => rfl)⟩, fun h hh => ⟨hh.1, hh.2.keep (fun _ hb => hb) h⟩⟩
theorem hRows_all {S : Nat → Prop} {w : World} {rows : List (List Value)} {ns : List Nod} (h : (hRows rows ns).on S w) : All2 (RNodeF S w) rows ns := ⟨h.1, kidPs_get h.2⟩
/-- nodes in memory of the call's own, their kids elsewhere -/
def NodesF (S : Nat → Prop) (w : World) (v : Value) (ns : List Nod) : Prop :=
  ∃ e A c rows, ∃ S1 : Nat → Prop, v = .slice A ns.length c ∧ (∀ b, S1 b → S b) ∧ (own e 9 A ns.length c rows).on S1 w ∧ (hRows rows ns).on (fun b => S b ∧ ¬ S1 b) w
theorem NodesF.mono {S S' : Nat → Prop} {w : World} {v : Value} {ns : List Nod} (h : ∀ b, S b → S' b) : NodesF S w v ns → NodesF S' w v ns :=
  fun ⟨e, A, c, rows, S1, h1, h2, h3, h4⟩ => ⟨e, A, c, rows, S1, h1, fun b hb => h b (h2 b hb), h3, HP.mono _ (fun b hb => ⟨h b hb.1, hb.2⟩) h4⟩
theorem NodesF.loc {S : Nat → Prop} {w w' : World} {v : Value} {ns : List Nod} (h : ∀ b, S b → w'.heap[b]? = w.heap[b]?) : NodesF S w v ns → NodesF S w' v ns :=
  fun ⟨e, A, c, rows, S1, h1, h2, h3, h4⟩ => ⟨e, A, c, rows, S1, h1, h2, HP.loc _ (fun b hb => h b (h2 b hb)) h3, HP.loc _ (fun b hb => h b hb.1) h4⟩
theorem NodesF.nodes {S : Nat → Prop} {w : World} {v : Value} {ns : List Nod} : NodesF S w v ns → RNodes S w v ns :=
  fun ⟨e, A, c, rows, S1, h1, h2, h3, h4⟩ => ⟨A, c, rows, h1, (own.arr h3).mono h2, (hRows_all h4).imp fun _ _ h => (h.mono fun b hb => hb.1).node, own.cap h3⟩
def hNodes (v : Value) (ns : List Nod) : HP := ⟨fun S w => NodesF S w v ns, NodesF.mono, NodesF.loc⟩
theorem hNodes_on {S : Nat → Prop} {w : World} {v : Value} {ns : List Nod} (h : (hNodes v ns).on S w) : RNodes S w v ns := NodesF.nodes h
theorem own_nil {S : Nat → Prop} {w : World} (e sz : Nat) : (own e sz none 0 0 []).on S w := ⟨World.ownsRow_nil w 0 e sz, rfl, by simp, fun g hg => by simp [Value.ownBlock] at hg⟩
theorem hNodes_nil {S : Nat → Prop} {w : World} : (hNodes (.slice none 0 0) []).on S w := ⟨0, none, 0, [], fun _ => False, rfl, fun _ h => h.elim, own_nil 0 9, rfl, trivial⟩
theorem RNodeF.leaf {S : Nat → Prop} {w : World} {n : Nod} (h : n.kids = []) : RNodeF S w (n.cells (.slice none 0 0)) n := ⟨0, none, 0, by rw [h]; rfl, by rw [h]; exact own_nil 0 1⟩
theorem hNodes_leaf {e c : Nat} {S : Nat → Prop} {w : World} {A : Option Addr} {n : Nod} (hk : n.kids = []) (h : (own e 9 A 1 c [n.cells (.slice none 0 0)]).on S w) : (hNodes (.slice A 1 c) [n]).on S w :=
  ⟨e, A, c, _, S, rfl, fun _ h => h, h, rfl, fun _ => False, fun _ h => h.elim, RNodeF.leaf hk, trivial⟩
theorem St.rows_nil {w0 w : World} {L : List HP} (h : St w0 L w) : St w0 (hRows [] [] :: L) w := h.push Chg.refl ⟨rfl, trivial⟩
theorem hRows_snoc {e m c : Nat} {A : Option Addr} {rows : List (List Value)} {out : List Nod} {n : Nod} {S S' : Nat → Prop} {w : World} (hm : n.kids.length = m) (h : (own e 1 A m c (irows n.kids)).on S w) (h' : (hRows rows out).on S' w) (hd : ∀ b, S b → ¬ S' b) :
    (hRows (rows ++ [n.cells (.slice A m c)]) (out ++ [n])).on (fun b => S b ∨ S' b) w := by
  subst hm
  refine ⟨by simp [h'.1], ?_⟩
  rw [kidPs_app _ _ h'.1]
  exact Sep.append h'.2 (S' := S) ⟨S, fun _ h => h, ⟨e, A, c, rfl, h⟩, trivial⟩ (fun _ h => .inr h) (fun _ h => .inl h) (fun b h1 h2 => hd b h2 h1)
theorem hNodes_join {e c : Nat} {A : Option Addr} {rows : List (List Value)} {out : List Nod} {S S' : Nat → Prop} {w : World} (h : (own e 9 A out.length c rows).on S w) (h' : (hRows rows out).on S' w) (hd : ∀ b, S b → ¬ S' b) :
    (hNodes (.slice A out.length c) out).on (fun b => S b ∨ S' b) w :=
  ⟨e, A, c, rows, S, rfl, fun _ h => .inl h, h, HP.mono _ (fun b hb => ⟨.inr hb, fun hs => hd b hs hb⟩) h'⟩
theorem cells_oneB (n : Nod) (A : Option Addr) (m c : Nat) : oneB (n.cells (.slice A m c)) = true := rfl
end Go.Bonsai
namespace Go.Proofs.YtalnmednhhimhaaDoor
open Go Go.Sl Go.RowKit Go.Bonsai
set_option linter.unusedVariables false
set_option linter.unusedSimpArgs false

/-- new trees -/
abbrev RetT (w : World) (t : Tre) : Ending → World → Prop := Ret w (fun p : Option Addr × Nat => .agg #[.slice p.1 t.nodes.length p.2, .int .i64 t.root]) (fun p => [hNodes (.slice p.1 t.nodes.length p.2) t.nodes]) (fun _ => True)

theorem leaf_any (n : Nod) (w : World) (hk : n.kids = []) : Calls Tryd.prog 24 #[.agg (n.cells (.slice none 0 0)).toArray] w (RetT w ⟨[n], 0⟩) := by
  refine TC.calls (l := [.agg (n.cells (.slice none 0 0)).toArray]) Tryd.func24 rfl Tryd.ntmps24 rfl (St.start w) ?_
  repeat' (first | (refine W1 ?_) | (refine W2 (fun hc => ?_) (fun hc => ?_)) | (intro _))
  rename_i b2 b1 B
  refine TX.ret_gen (rs := [.cell 2 24]) (vs := [.agg #[.slice (some ⟨B, 0, none⟩) 1 1, .int .i64 0]]) rfl (.cell rfl (blk_res (cs := [.slice (some ⟨B, 0, none⟩) 1 1, .int .i64 0]) AtA rfl) .nil) (fun w' hw => ?_)
  have h := St.weak (H' := hNodes (.slice (some ⟨B, 0, none⟩) 1 1) [n]) (fun S w h => hNodes_leaf hk h) hw
  exact Ret.mk ((some ⟨B, 0, none⟩ : Option Addr), 1) trivial (.cons .here .nil) h

theorem tree_text (s : ByteArray) (w : World) : Calls Tryd.prog 15 #[.string s] w (RetT w ⟨[⟨2, .zero, s, 0, 0, []⟩], 0⟩) := by
  refine TC.calls (l := [.string s]) Tryd.func15 rfl Tryd.ntmps15 rfl (St.start w) ?_
  repeat' (first | (refine T.callR rfl rfl (fun w' hw' => leaf_any ⟨2, .zero, s, 0, 0, []⟩ w' rfl) ?_) | (refine W1 ?_) | (refine W2 (fun hc => ?_) (fun hc => ?_)) | (intro _))
  rename_i b p _
  refine TX.ret_gen (rs := [.cell 2 24]) (vs := [.agg #[.slice p.1 1 p.2, .int .i64 0]]) rfl (.cell rfl (blk_res (cs := [.slice p.1 1 p.2, .int .i64 0]) AtA rfl) .nil) (fun w' hw => ?_)
  exact Ret.mk p trivial (.cons .here .nil) hw
theorem tree_rule (s : ByteArray) (w : World) : Calls Tryd.prog 12 #[.string s] w (RetT w ⟨[⟨3, .zero, s, 0, 0, []⟩], 0⟩) := by
  refine TC.calls (l := [.string s]) Tryd.func12 rfl Tryd.ntmps12 rfl (St.start w) ?_
  repeat' (first | (refine T.callR rfl rfl (fun w' hw' => leaf_any ⟨3, .zero, s, 0, 0, []⟩ w' rfl) ?_) | (refine W1 ?_) | (refine W2 (fun hc => ?_) (fun hc => ?_)) | (intro _))
  rename_i b p _
  refine TX.ret_gen (rs := [.cell 2 24]) (vs := [.agg #[.slice p.1 1 p.2, .int .i64 0]]) rfl (.cell rfl (blk_res (cs := [.slice p.1 1 p.2, .int .i64 0]) AtA rfl) .nil) (fun w' hw => ?_)
  exact Ret.mk p trivial (.cons .here .nil) hw
theorem tree_set (s : Bts) (w : World) : Calls Tryd.prog 17 #[.agg s.vals.toArray] w (RetT w ⟨[⟨1, s, ⟨#[]⟩, 0, 0, []⟩], 0⟩) := by
  refine TC.calls (l := [.agg s.vals.toArray]) Tryd.func17 rfl Tryd.ntmps17 rfl (St.start w) ?_
  repeat' (first | (refine T.callR rfl rfl (fun w' hw' => leaf_any ⟨1, s, ⟨#[]⟩, 0, 0, []⟩ w' rfl) ?_) | (refine W1 ?_) | (refine W2 (fun hc => ?_) (fun hc => ?_)) | (intro _))
  rename_i b p _
  refine TX.ret_gen (rs := [.cell 2 24]) (vs := [.agg #[.slice p.1 1 p.2, .int .i64 0]]) rfl (.cell rfl (blk_res (cs := [.slice p.1 1 p.2, .int .i64 0]) AtA rfl) .nil) (fun w' hw => ?_)
  exact Ret.mk p trivial (.cons .here .nil) hw
theorem tree_empty  (w : World) : Calls Tryd.prog 16 #[] w (RetT w ⟨[⟨0, .zero, ⟨#[]⟩, 0, 0, []⟩], 0⟩) := by
  refine TC.calls (l := []) Tryd.func16 rfl Tryd.ntmps16 rfl (St.start w) ?_
  repeat' (first | (refine T.callR rfl rfl (fun w' hw' => leaf_any ⟨0, .zero, ⟨#[]⟩, 0, 0, []⟩ w' rfl) ?_) | (refine W1 ?_) | (refine W2 (fun hc => ?_) (fun hc => ?_)) | (intro _))
  rename_i b p _
  refine TX.ret_gen (rs := [.cell 0 24]) (vs := [.agg #[.slice p.1 1 p.2, .int .i64 0]]) rfl (.cell rfl (blk_res (cs := [.slice p.1 1 p.2, .int .i64 0]) AtA rfl) .nil) (fun w' hw => ?_)
  exact Ret.mk p trivial (.cons .here .nil) hw
end Go.Proofs.YtalnmednhhimhaaDoor
