/-
  Pieces joined to trees.
-/
import Derived.Test.YtlhkkngpppcfoaaDoorFacts
import Derived.Test.YtlhkkngpppcfoaaDoorRep
set_option linter.all false
namespace Go.Sl
open Go.RowKit
theorem St.weak {w0 w : World} {H H' : HP} {L : List HP} (hi : ∀ S w, H.on S w → H'.on S w) (h : St w0 (H :: L) w) : St w0 (H' :: L) w := by
  obtain ⟨hb, S1, h1, h2, h3⟩ := h
  exact ⟨hb, S1, h1, hi _ _ h2, h3⟩
theorem St.join {w0 w : World} {H H' K : HP} {L : List HP} (hi : ∀ S S' w, H.on S w → H'.on S' w → K.on (fun b => S b ∨ S' b) w) (h : St w0 (H :: H' :: L) w) : St w0 (K :: L) w := by
  obtain ⟨hb, S1, h1, h2, S2, h3, h4, h5⟩ := h
  refine ⟨hb, fun b => S1 b ∨ S2 b, fun b hb => ?_, hi _ _ _ h2 h4, h5.keep (fun b hb => ⟨hb.1.1, fun h => ?_⟩) (fun _ _ => rfl)⟩
  · rcases hb with hb | hb
    · exact h1 b hb
    · exact (h3 b hb).1
  · rcases h with h | h
    · exact hb.1.2 h
    · exact hb.2 h
theorem St.weakAt {w0 w : World} {H H' : HP} {L L' : List HP} (hu : Upd L H H' L') (hi : ∀ S w, H.on S w → H'.on S w) (h : St w0 L w) : St w0 L' w := by
  obtain ⟨S1, g1, g2, g3⟩ := h.upd hu
  exact g3 S1 w Chg.refl (fun b hb => .inl hb) (hi _ _ g2)
theorem own.arr' {e sz n c : Nat} {A : Option Addr} {rows : List (List Value)} {S : Nat → Prop} {w : World} (h : (own e sz A n c rows).on S w) : Arr sz S w A n rows := own.arr h
theorem own.cap {e sz n c : Nat} {A : Option Addr} {rows : List (List Value)} {S : Nat → Prop} {w : World} (h : (own e sz A n c rows).on S w) : n ≤ c := by
  obtain ⟨⟨hl, hc⟩, h2, h3, h4⟩ := h
  rcases hc with ⟨hv, h0⟩ | ⟨g, cap, cur, hv, hg, hw, hr1, hr2, hr3, hr4⟩
  · injection hv with hA hn hcc
    omega
  · injection hv with hA hn hcc
    omega
theorem take_rows {sz : Nat} : ∀ (rows : List (List Value)) (m : Nat), (∀ r ∈ rows, r.length = sz) → rows.flatten.take (m * sz) = (rows.take m).flatten
  | [], m, _ => by simp
  | r :: l, 0, _ => by simp
  | r :: l, m + 1, h => by
    have hr := h r (by simp)
    have ih := take_rows l m (fun x hx => h x (by simp [hx]))
    rw [List.flatten_cons, List.take_append, List.take_succ_cons, List.flatten_cons, ← ih, List.take_of_length_le (l := r) (by rw [hr, Nat.add_mul]; omega)]
    congr 2
    rw [hr, Nat.add_mul]
    omega
/-- the first m of a slice of one's own -/
theorem own.take {e sz n c m : Nat} {A : Option Addr} {rows : List (List Value)} {S : Nat → Prop} {w : World} (hm : m ≤ n) (h : (own e sz A n c rows).on S w) : (own e sz A m c (rows.take m)).on S w := by
  obtain ⟨⟨hl, hc⟩, h2, h3, h4⟩ := h
  have hrs : ∀ r ∈ rows.take m, r.length = sz := fun r hr => h3 r (List.mem_of_mem_take hr)
  have hrl : (rows.take m).length = m := by simp; omega
  refine ⟨⟨?_, ?_⟩, hrl, hrs, ?_⟩
  · rw [length_flatten hrs, hrl]
  · rcases hc with ⟨hv, h0⟩ | ⟨g, cap, cur, hv, hg, hw, hr1, hr2, hr3, hr4⟩
    · injection hv with hA hn hcc
      subst hA
      subst hcc
      have : m = 0 := by omega
      subst this
      exact .inl ⟨rfl, rfl⟩
    · injection hv with hA hn hcc
      subst hA
      subst hcc
      refine .inr ⟨g, c, cur, rfl, hg, hw, by omega, hr2, hr3, ?_⟩
      have hle : m * sz ≤ n * sz := Nat.mul_le_mul_right sz hm
      rw [← take_rows rows m h3, ← hr4, List.take_take, Nat.min_eq_left hle]
  · intro g hg
    refine h4 g ?_
    cases A with
    | none => simp [Value.ownBlock] at hg
    | some a => simpa [Value.ownBlock] using hg
section
variable {P : Program} {C : World → Prop} {ops : Array Oper} {ks : Nat → Kd} {Q : Exit → Act → World → Prop} {i : Nat} {rest : List Oper} {n : FD} {s : Sg} {M M' : World → Prop} {c : Code} {e : Exit}
theorem T.sub (h : ∀ w, M w → M' w) (k : T P ops Q rest n s M') : T P ops Q rest n s M := ⟨fun a w hf hm => k.go a w hf (h w hm)⟩
theorem TC.sub (h : ∀ w, M w → M' w) (k : TC P c Q n s M') : TC P c Q n s M := ⟨fun a w hf hm => k.go a w hf (h w hm)⟩
theorem TL.sub (h : ∀ w, M w → M' w) (k : TL P C ops ks Q i rest n s M') : TL P C ops ks Q i rest n s M := ⟨fun a w hf hm => k.go a w hf (h w hm)⟩
/-- a fact that each such world tells -/
theorem TC.fact {φ : Prop} (h : ∀ w, M w → φ) (k : φ → TC P c Q n s M) : TC P c Q n s M := ⟨fun a w hf hm => (k (h w hm)).go a w hf hm⟩
theorem T.fact {φ : Prop} (h : ∀ w, M w → φ) (k : φ → T P ops Q rest n s M) : T P ops Q rest n s M := ⟨fun a w hf hm => (k (h w hm)).go a w hf hm⟩
theorem TL.fact {φ : Prop} (h : ∀ w, M w → φ) (k : φ → TL P C ops ks Q i rest n s M) : TL P C ops ks Q i rest n s M := ⟨fun a w hf hm => (k (h w hm)).go a w hf hm⟩
theorem TX.sub (h : ∀ w, M w → M' w) (k : TX Q e n s M') : TX Q e n s M := ⟨fun a w hf hm => k.go a w hf (h w hm)⟩
end
end Go.Sl
namespace Go.Bonsai
open Go Go.Sl Go.RowKit
/-- a node without kids -/
theorem RNode.leaf {S : Nat → Prop} {w : World} {n : Nod} (h : n.kids = []) : RNode S w (n.cells (.slice none 0 0)) n :=
  ⟨_, rfl, by rw [h]; exact ⟨none, 0, rfl, ⟨rfl, by simp [irows], by simp⟩, by simp⟩⟩
def hNodes (v : Value) (ns : List Nod) : HP := ⟨fun S w => RNodes S w v ns, RNodes.mono, RNodes.loc⟩
theorem RNodes.leaf1 {e c : Nat} {S : Nat → Prop} {w : World} {A : Option Addr} {r : List Value} {n : Nod} (h : (own e 9 A 1 c [r]).on S w) (hr : RNode S w r n) (hc : 1 ≤ c) : RNodes S w (.slice A 1 c) [n] :=
  ⟨A, c, [r], rfl, own.arr h, All2.snoc (l := []) (m := []) .nil hr, hc⟩
theorem St.rows_nil {w0 w : World} {L : List HP} (h : St w0 L w) : St w0 (hRows [] [] :: L) w := h.push Chg.refl All2.nil
theorem hRows_snoc {e m c : Nat} {A : Option Addr} {rows : List (List Value)} {out : List Nod} {n : Nod} {S S' : Nat → Prop} {w : World} (hm : n.kids.length = m) (h : (own e 1 A m c (irows n.kids)).on S w) (h' : (hRows rows out).on S' w) :
    (hRows (rows ++ [n.cells (.slice A m c)]) (out ++ [n])).on (fun b => S b ∨ S' b) w := by
  subst hm
  refine All2.snoc (All2.imp (fun _ _ => RNode.mono fun _ h => .inr h) h') ⟨_, rfl, A, c, rfl, (own.arr h).mono fun _ h => .inl h, own.cap h⟩
theorem hNodes_join {e c : Nat} {A : Option Addr} {rows : List (List Value)} {out : List Nod} {S S' : Nat → Prop} {w : World} (h : (own e 9 A out.length c rows).on S w) (h' : (hRows rows out).on S' w) :
    (hNodes (.slice A out.length c) out).on (fun b => S b ∨ S' b) w :=
  ⟨A, c, rows, rfl, (own.arr h).mono fun _ h => .inl h, All2.imp (fun _ _ => RNode.mono fun _ h => .inr h) h', own.cap h⟩
theorem cells_oneB (n : Nod) (A : Option Addr) (m c : Nat) : oneB (n.cells (.slice A m c)) = true := rfl
end Go.Bonsai
namespace Go.Proofs.YtlhkkngpppcfoaaDoor
open Go Go.Sl Go.RowKit Go.Bonsai
set_option linter.unusedVariables false
set_option linter.unusedSimpArgs false

/-- new trees -/
abbrev RetT (w : World) (t : Tre) : Ending → World → Prop := Ret w (fun p : Option Addr × Nat => .agg #[.slice p.1 t.nodes.length p.2, .int .i64 t.root]) (fun p => [hNodes (.slice p.1 t.nodes.length p.2) t.nodes]) (fun _ => True)

theorem leaf_any (n : Nod) (w : World) (hk : n.kids = []) : Calls Tryd.prog 88 #[.agg (n.cells (.slice none 0 0)).toArray] w (RetT w ⟨[n], 0⟩) := by
  refine TC.calls (l := [.agg (n.cells (.slice none 0 0)).toArray]) Tryd.func88 rfl Tryd.ntmps88 rfl (St.start w) ?_
  repeat' (first | (refine W1 ?_) | (refine W2 (fun hc => ?_) (fun hc => ?_)) | (intro _))
  rename_i b2 b1 B
  refine TX.ret_gen (rs := [.cell 2 24]) (vs := [.agg #[.slice (some ⟨B, 0, none⟩) 1 1, .int .i64 0]]) rfl (.cell rfl (blk_res (cs := [.slice (some ⟨B, 0, none⟩) 1 1, .int .i64 0]) AtA rfl) .nil) (fun w' hw => ?_)
  have h := St.weak (H' := hNodes (.slice (some ⟨B, 0, none⟩) 1 1) [n]) (fun S w h => RNodes.leaf1 h (RNode.leaf hk) (Nat.le_refl _)) hw
  exact Ret.mk ((some ⟨B, 0, none⟩ : Option Addr), 1) trivial (.cons .here .nil) h

theorem tree_text (s : ByteArray) (w : World) : Calls Tryd.prog 26 #[.string s] w (RetT w ⟨[⟨2, .zero, s, 0, 0, []⟩], 0⟩) := by
  refine TC.calls (l := [.string s]) Tryd.func26 rfl Tryd.ntmps26 rfl (St.start w) ?_
  repeat' (first | (refine T.callR rfl rfl (fun w' hw' => leaf_any ⟨2, .zero, s, 0, 0, []⟩ w' rfl) ?_) | (refine W1 ?_) | (refine W2 (fun hc => ?_) (fun hc => ?_)) | (intro _))
  rename_i b p _
  refine TX.ret_gen (rs := [.cell 2 24]) (vs := [.agg #[.slice p.1 1 p.2, .int .i64 0]]) rfl (.cell rfl (blk_res (cs := [.slice p.1 1 p.2, .int .i64 0]) AtA rfl) .nil) (fun w' hw => ?_)
  exact Ret.mk p trivial (.cons .here .nil) hw
theorem tree_rule (s : ByteArray) (w : World) : Calls Tryd.prog 27 #[.string s] w (RetT w ⟨[⟨3, .zero, s, 0, 0, []⟩], 0⟩) := by
  refine TC.calls (l := [.string s]) Tryd.func27 rfl Tryd.ntmps27 rfl (St.start w) ?_
  repeat' (first | (refine T.callR rfl rfl (fun w' hw' => leaf_any ⟨3, .zero, s, 0, 0, []⟩ w' rfl) ?_) | (refine W1 ?_) | (refine W2 (fun hc => ?_) (fun hc => ?_)) | (intro _))
  rename_i b p _
  refine TX.ret_gen (rs := [.cell 2 24]) (vs := [.agg #[.slice p.1 1 p.2, .int .i64 0]]) rfl (.cell rfl (blk_res (cs := [.slice p.1 1 p.2, .int .i64 0]) AtA rfl) .nil) (fun w' hw => ?_)
  exact Ret.mk p trivial (.cons .here .nil) hw
theorem tree_set (s : Bts) (w : World) : Calls Tryd.prog 25 #[.agg s.vals.toArray] w (RetT w ⟨[⟨1, s, ⟨#[]⟩, 0, 0, []⟩], 0⟩) := by
  refine TC.calls (l := [.agg s.vals.toArray]) Tryd.func25 rfl Tryd.ntmps25 rfl (St.start w) ?_
  repeat' (first | (refine T.callR rfl rfl (fun w' hw' => leaf_any ⟨1, s, ⟨#[]⟩, 0, 0, []⟩ w' rfl) ?_) | (refine W1 ?_) | (refine W2 (fun hc => ?_) (fun hc => ?_)) | (intro _))
  rename_i b p _
  refine TX.ret_gen (rs := [.cell 2 24]) (vs := [.agg #[.slice p.1 1 p.2, .int .i64 0]]) rfl (.cell rfl (blk_res (cs := [.slice p.1 1 p.2, .int .i64 0]) AtA rfl) .nil) (fun w' hw => ?_)
  exact Ret.mk p trivial (.cons .here .nil) hw
theorem tree_empty  (w : World) : Calls Tryd.prog 23 #[] w (RetT w ⟨[⟨0, .zero, ⟨#[]⟩, 0, 0, []⟩], 0⟩) := by
  refine TC.calls (l := []) Tryd.func23 rfl Tryd.ntmps23 rfl (St.start w) ?_
  repeat' (first | (refine T.callR rfl rfl (fun w' hw' => leaf_any ⟨0, .zero, ⟨#[]⟩, 0, 0, []⟩ w' rfl) ?_) | (refine W1 ?_) | (refine W2 (fun hc => ?_) (fun hc => ?_)) | (intro _))
  rename_i b p _
  refine TX.ret_gen (rs := [.cell 0 24]) (vs := [.agg #[.slice p.1 1 p.2, .int .i64 0]]) rfl (.cell rfl (blk_res (cs := [.slice p.1 1 p.2, .int .i64 0]) AtA rfl) .nil) (fun w' hw => ?_)
  exact Ret.mk p trivial (.cons .here .nil) hw
end Go.Proofs.YtlhkkngpppcfoaaDoor
