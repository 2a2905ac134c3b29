/-
  The law's own helpers: nots, long.
-/
import Derived.Test.YtlhkkngpppcfoaaDoorFoD
set_option linter.all false
namespace Go.Bonsai
open Go Go.Sl Go.RowKit
theorem RTrees.one {S S' : Nat → Prop} {w : World} {A B : Option Addr} {c d e : Nat} {t : Tre} {v : Int} (hv : v = t.root) (h : (own e 2 A 1 c [[.slice B t.nodes.length d, .int .i64 v]]).on S w) (h' : RNodes S' w (.slice B t.nodes.length d) t.nodes) : RTrees (fun b => S b ∨ S' b) w (.slice A 1 c) [t] := by
  subst hv
  exact ⟨A, c, _, rfl, (own.arr h).mono fun _ h => .inl h, All2.snoc (l := []) (m := []) .nil ⟨B, d, rfl, h'.mono fun _ h => .inr h⟩, own.cap h⟩
def totK (l : List Tre) : Nat := (l.map fun t => (allKids t.nodes).length).sum
/-- so many trees, nodes, and kids, in all -/
def Small (l : List Tre) : Prop := l.length + tot l + totK l < 4000
theorem totK_take (l : List Tre) (i : Nat) (h : i < l.length) : totK (l.take (i + 1)) = totK (l.take i) + (allKids l[i].nodes).length := by
  rw [List.take_succ_eq_append_getElem h]
  simp only [totK, List.map_append, List.sum_append, List.map_cons, List.map_nil, List.sum_cons, List.sum_nil, Nat.add_zero]
theorem totK_le {l : List Tre} {t : Tre} (h : t ∈ l) : (allKids t.nodes).length ≤ totK l := by
  induction l with
  | nil => cases h
  | cons x l ih =>
    simp only [totK, List.map_cons, List.sum_cons]
    rcases List.mem_cons.1 h with rfl | h
    · omega
    · have := ih h
      unfold totK at this
      omega
theorem allKids_takeL {ns : List Nod} {i : Nat} {n : Nod} (h : ns[i]? = some n) : (allKids (ns.take (i + 1))).length = (allKids (ns.take i)).length + n.kids.length := by
  obtain ⟨hi, he⟩ := List.getElem?_eq_some_iff.1 h
  rw [List.take_succ_eq_append_getElem hi, he]
  simp [allKids]
theorem tot_take (l : List Tre) (i : Nat) (h : i < l.length) : tot (l.take (i + 1)) = tot (l.take i) + l[i].nodes.length := by
  rw [List.take_succ_eq_append_getElem h]
  simp only [tot, List.map_append, List.sum_append, List.map_cons, List.map_nil, List.sum_cons, List.sum_nil, Nat.add_zero]
theorem RTrees.old1b {w0 w : World} {L : List HP} {A : Option Addr} {c e : Nat} {B : Nat} {t : Tre} (hw : St w0 L w) (ha : At L (own e 2 (some ⟨B, 0, none⟩) 1 1 [[.slice A t.nodes.length c, .int .i64 t.root]])) (hr : RTreeC (Old w0) w0 [.slice A t.nodes.length c, .int .i64 t.root] t) :
    RTrees (Old w) w (.slice (some ⟨B, 0, none⟩) 1 1) [t] :=
  ⟨some ⟨B, 0, none⟩, 1, _, rfl, St.own_arr hw ha, All2.snoc (l := []) (m := []) .nil (St.old_treeC hw hr), Nat.le_refl _⟩
theorem RNode.old {w0 w : World} {L : List HP} {cs : List Value} {n : Nod} (hw : St w0 L w) (h : RNode (Old w0) w0 cs n) : RNode (Old w) w cs n :=
  (RNode.loc (fun b hb => hw.below.block b hb) h).mono fun _ hb => Nat.lt_of_lt_of_le hb hw.below.size
/-- the tree of one node, laid just now -/
theorem RNodes.one {w0 w : World} {L : List HP} {e B : Nat} {n : Nod} {cs : List Value} (hw : St w0 L w) (ha : At L (own e 9 (some ⟨B, 0, none⟩) 1 1 [cs])) (hr : RNode (Old w) w cs n) : RNodes (Old w) w (.slice (some ⟨B, 0, none⟩) 1 1) [n] :=
  ⟨some ⟨B, 0, none⟩, 1, [cs], rfl, St.own_arr hw ha, All2.snoc (l := []) (m := []) .nil hr, Nat.le_refl _⟩
theorem RTrees.oneN {w0 w : World} {L : List HP} {e e' B B' : Nat} {n : Nod} {cs : List Value} (hw : St w0 L w) (ha : At L (own e 9 (some ⟨B, 0, none⟩) 1 1 [cs])) (ha' : At L (own e' 2 (some ⟨B', 0, none⟩) 1 1 [[.slice (some ⟨B, 0, none⟩) 1 1, .int .i64 0]])) (hr : RNode (Old w) w cs n) :
    RTrees (Old w) w (.slice (some ⟨B', 0, none⟩) 1 1) [⟨[n], 0⟩] :=
  ⟨some ⟨B', 0, none⟩, 1, _, rfl, St.own_arr hw ha', All2.snoc (l := []) (m := []) .nil ⟨some ⟨B, 0, none⟩, 1, rfl, RNodes.one hw ha hr⟩, Nat.le_refl _⟩
theorem St.dropL {w0 w : World} {K L : List HP} (h : St w0 (K ++ L) w) : St w0 L w := by
  have := h.drop K.length
  rwa [List.drop_left] at this
section
variable {P : Program} {C : World → Prop} {ops : Array Oper} {ks : Nat → Kd} {Q : Exit → Act → World → Prop} {i : Nat} {rest : List Oper} {n : FD} {s : Sg} {ty : TypeId} {pos : String} {af : Array Edge} {d : Nat} {v : Value} {w0 : World} {L : List HP}
theorem TL.kcallV {f : FuncId} {xs : List Operand} {vs : List Value} {tys : Array TypeId} [hf' : CF P f] (hxs : evs s xs = some vs) (h : ∀ w, St w0 L w → Calls P f vs.toArray w (RetV w v)) (hd : Nat.blt d n.sz = true) (hk : ks i = .keep) (hC : ∀ w, St w0 L w → C w)
    (k : TL P C ops ks Q (i + 1) rest n ((d, v) :: s) (St w0 L)) : TL P C ops ks Q i (⟨some d, .call { callee := .value (.func f), args := xs.toArray, argTypes := tys }, ty, pos, af, none⟩ :: rest) n s (St w0 L) :=
  TL.kcall hd hk hC (Cl.callV hxs h) (fun _ w hw => hC w hw) (fun _ => k)
theorem TL.kcallR {ι : Sort _} {val : ι → Value} {HL : ι → List HP} {p : ι → Prop} {f : FuncId} {xs : List Operand} {vs : List Value} {tys : Array TypeId} [hf' : CF P f] (hxs : evs s xs = some vs) (h : ∀ w, St w0 L w → Calls P f vs.toArray w (Ret w val HL p)) (hd : Nat.blt d n.sz = true) (hk : ks i = .keep) (hC : ∀ w, St w0 L w → C w)
    (k : ∀ x, p x → TL P C ops ks Q (i + 1) rest n ((d, val x) :: s) (St w0 (HL x ++ L))) : TL P C ops ks Q i (⟨some d, .call { callee := .value (.func f), args := xs.toArray, argTypes := tys }, ty, pos, af, none⟩ :: rest) n s (St w0 L) :=
  TL.kcall hd hk hC (Cl.callR hxs h) (fun _ w hw => hC w (St.dropL hw)) (fun x => k x.1 x.2)
end
end Go.Bonsai
namespace Go.Proofs.YtlhkkngpppcfoaaDoor
open Go Go.Sl Go.RowKit Go.Bonsai
set_option linter.unusedVariables false
set_option linter.unusedSimpArgs false

theorem nots_any (m : Nat) (w : World) (hm : m < 1000) (hT : Tab w) : Calls Tryd.prog 40 #[.int .i64 (m : Int)] w (RetT w (notsP m)) := by
  refine TC.calls (l := [.int .i64 (m : Int)]) Tryd.func40 rfl Tryd.ntmps40 rfl (St.start w) ?_
  repeat' (first | (refine T.callR rfl rfl (fun w' hw' => tree_empty w') ?_) | (refine W1 ?_) | (refine W2 (fun hc => ?_) (fun hc => ?_)) | (intro _))
  rename_i b2 p _ b3
  refine TC.loopA (ι := Nat × (Option Addr × Nat)) (0, p) (fun k r => (4, .int .i64 k.1) :: r) (fun k => St w [blk b3 [.slice k.2.1 (notsP k.1).nodes.length k.2.2, .int .i64 (notsP k.1).root] 24, hNodes (.slice k.2.1 (notsP k.1).nodes.length k.2.2) (notsP k.1).nodes, blk b2 [.slice none 0 0, .int .i64 0] 24])
    (fun k => k.1 ≤ m) (fun k => m - k.1) KpA SubA (fun w' hw => St.inc IncA hw) (Nat.zero_le _) ?_
  rintro ⟨i, A, c⟩ hi
  simp only at hi ⊢
  by_cases hlt : i < m
  · have hck : decide ((i : Int) < (m : Int)) = true := by simp [hlt]
    have hwf := notsP_wf i (by omega)
    have htl : tot [notsP i] + 1 ≤ bigN := by rw [tot_cons, notsP_len]; unfold bigN; simp [tot]; omega
    repeat' (first | (refine W1 ?_) | (refine W2 (fun hc => ?_) (fun hc => ?_)) | (intro _))
    rename_i B
    refine T.callR rfl rfl (fun w' hw' => of_any notN (.slice none 0 0) (.slice (some ⟨B, 0, none⟩) 1 1) [notsP i] w' notN_wf ?_ (by unfold bigN; simp) (by intro t ht; simp at ht; subst ht; exact hwf) htl (Tab.st hT hw')) (fun p2 _ => ?_)
    · exact (RTrees.one rfl (hw'.at_all (H := own 24 2 (some ⟨B, 0, none⟩) 1 1 [[.slice A (notsP i).nodes.length c, .int .i64 (notsP i).root]]) AtA) (hNodes_on (hw'.at_all (H := hNodes (.slice A (notsP i).nodes.length c) (notsP i).nodes) AtA))).mono (fun _ h => h.elim id id)
    · repeat' (first | (refine W1 ?_) | (refine W2 (fun hc => ?_) (fun hc => ?_)) | (intro _))
      exact TX.round (i + 1, p2) hlt (show m - (i + 1) < m - i by omega) SubA (fun w' hw => St.inc IncA hw)
  · have hck : decide ((i : Int) < (m : Int)) = false := by simp; omega
    obtain rfl : i = m := by omega
    repeat' (first | (refine W1 ?_) | (refine W2 (fun hc => ?_) (fun hc => ?_)) | (intro _))
    refine TX.ret_gen (rs := [.cell 2 24]) (vs := [.agg #[.slice A (notsP i).nodes.length c, .int .i64 (notsP i).root]]) rfl (.cell rfl (blk_res (cs := [.slice A (notsP i).nodes.length c, .int .i64 (notsP i).root]) AtA rfl) .nil) (fun w' hw => ?_)
    exact Ret.mk (A, c) trivial (.cons DelA .nil) hw

theorem long_any (v : Value) (l : List Tre) (w : World) (hr : RTrees (Old w) w v l) (hl : l.length ≤ 4398046511104) (hwl : ∀ t ∈ l, t.wf) :
    Calls Tryd.prog 17 #[v] w (Ret w (fun b : Bool => .bool b) (fun _ => []) (fun b => b = false → Small l)) := by
  obtain ⟨A, c, rows0, rfl, hA, hrows, hc⟩ := hr
  refine TC.calls (l := [.slice A l.length c]) Tryd.func17 rfl Tryd.ntmps17 rfl (St.start w) ?_
  repeat' (first | (refine W1 ?_) | (refine W2 (fun hc => ?_) (fun hc => ?_)) | (intro _))
  refine TC.loopA (ι := Nat × Int) (0, 0) (fun k r => (4, .int .i64 k.1) :: (3, .int .i64 k.2) :: r) (fun _ => St w [])
    (fun k => k.1 ≤ l.length ∧ 0 ≤ k.2 ∧ k.2 ≤ 9000 ∧ (k.2 < 4000 → (k.1 : Int) + tot (l.take k.1) + totK (l.take k.1) ≤ k.2)) (fun k => l.length - k.1) KpA SubA (fun w' hw => St.inc IncA hw) ⟨Nat.zero_le _, Int.le_refl _, by simp, by simp [tot, totK]⟩ ?_
  rintro ⟨i, n⟩ ⟨hi, hn0, hn1, hn2⟩
  simp only at hi hn0 hn1 hn2 ⊢
  by_cases hlt : i < l.length
  case neg =>
    have hck : decide ((i : Int) < (l.length : Int)) = false := by simp; omega
    repeat' (first | (refine W1 ?_) | (refine W2 (fun hc => ?_) (fun hc => ?_)) | (intro _))
    refine TX.ret_tmp rfl rfl (fun w' hw => ?_)
    refine Ret.mk (decide (4000 ≤ n)) (fun h => ?_) .nil hw
    obtain rfl : i = l.length := by omega
    rw [List.take_of_length_le (Nat.le_refl _)] at hn2
    simp at h
    have := hn2 h
    unfold Small; omega
  case pos =>
    have hck : decide ((i : Int) < (l.length : Int)) = true := by simp [hlt]
    by_cases hn4 : n < 4000
    case neg =>
      have hcn : decide (n < 4000) = false := by simpa using hn4
      repeat' (first | (refine W1 ?_) | (refine W2 (fun hc => ?_) (fun hc => ?_)) | (intro _))
      refine TX.ret_tmp rfl rfl (fun w' hw => ?_)
      refine Ret.mk (decide (4000 ≤ n)) (fun h => ?_) .nil hw
      simp at h; omega
    case pos =>
      have hcn : decide (n < 4000) = true := by simpa using hn4
      obtain ⟨cs, hcs, hrc⟩ := hrows.get (List.getElem?_eq_getElem hlt)
      have hwt := hwl _ (List.getElem_mem hlt)
      have htt := tot_take l i hlt
      have htk := totK_take l i hlt
      have hn2 := hn2 hn4
      generalize l[i] = t at *
      obtain ⟨K, kc, rfl, Kn⟩ := hrc
      obtain ⟨K', kc', rows', e, hK, hrows', _⟩ := Kn
      injection e with e1 e2 e3
      subst e1; subst e3
      have hA' : A = some (A.getD default) := hA.some_ (by omega)
      have hI1 : I64 (n + 1) := by unfold I64; omega
      have htl := hwt.len
      unfold bigN at htl
      repeat' (first | (refine W1 ?_) | (refine W2 (fun hc => ?_) (fun hc => ?_)) | (intro _))
      refine TC.loopA (ι := Nat × Int) (0, n + 1) (fun k r => (5, .int .i64 k.1) :: (3, .int .i64 k.2) :: r) (fun _ => St w [])
        (fun k => k.1 ≤ t.nodes.length ∧ 0 ≤ k.2 ∧ k.2 ≤ 9000 ∧ (k.2 < 4000 → (i : Int) + 1 + tot (l.take i) + totK (l.take i) + k.1 + (allKids (t.nodes.take k.1)).length ≤ k.2)) (fun k => t.nodes.length - k.1) KpA SubA (fun w' hw => St.inc IncA hw) ⟨Nat.zero_le _, by show 0 ≤ n + 1; omega, by show n + 1 ≤ 9000; omega, by show n + 1 < 4000 → _; intro _; simp [allKids]; omega⟩ ?_
      rintro ⟨k, q⟩ ⟨hk, hq0, hq1, hq2⟩
      simp only at hk hq0 hq1 hq2 ⊢
      by_cases hkt : k < t.nodes.length
      case neg =>
        have hckt : decide ((k : Int) < (t.nodes.length : Int)) = false := by simp; omega
        repeat' (first | (refine W1 ?_) | (refine W2 (fun hc => ?_) (fun hc => ?_)) | (intro _))
        refine TX.round (i + 1, q) ⟨hlt, hq0, hq1, fun h => ?_⟩ (show l.length - (i + 1) < l.length - i by omega) SubA (fun w' hw => St.inc IncA hw)
        have := hq2 h
        show ((i + 1 : Nat) : Int) + tot (l.take (i + 1)) + totK (l.take (i + 1)) ≤ q
        obtain rfl : k = t.nodes.length := by omega
        rw [List.take_of_length_le (Nat.le_refl _)] at this
        omega
      case pos =>
        have hckt : decide ((k : Int) < (t.nodes.length : Int)) = true := by simp [hkt]
        by_cases hq4 : q < 4000
        case neg =>
          have hcq : decide (q < 4000) = false := by simpa using hq4
          repeat' (first | (refine W1 ?_) | (refine W2 (fun hc => ?_) (fun hc => ?_)) | (intro _))
          exact TX.round (i + 1, q) ⟨hlt, hq0, hq1, fun h => absurd h hq4⟩ (show l.length - (i + 1) < l.length - i by omega) SubA (fun w' hw => St.inc IncA hw)
        case pos =>
          have hcq : decide (q < 4000) = true := by simpa using hq4
          have hq2 := hq2 hq4
          obtain ⟨cs, hcs', kv, rfl, K2, kc2, rfl, hK2, hkc2⟩ := hrows'.get (List.getElem?_eq_getElem hkt)
          have hwn := hwt.nodes _ (List.getElem_mem hkt)
          have hak := allKids_takeL (List.getElem?_eq_getElem hkt)
          generalize t.nodes[k] = n2 at *
          have hkl := hwn.kids.1
          have htx := hwn.text
          unfold bigL at hkl
          have hK' : K = some (K.getD default) := hK.some_ (by omega)
          repeat' (first | (refine W1 ?_) | (refine W2 (fun hc => ?_) (fun hc => ?_)) | (intro _))
          refine TX.round (k + 1, q + 1 + min 4000 (n2.kids.length : Int) + min 4000 (n2.text.size : Int) / 20) ⟨hkt, ?_, ?_, ?_⟩ (show t.nodes.length - (k + 1) < t.nodes.length - k by omega) SubA (fun w' hw => St.inc IncA hw)
          · show 0 ≤ q + 1 + min 4000 (n2.kids.length : Int) + min 4000 (n2.text.size : Int) / 20
            omega
          · show q + 1 + min 4000 (n2.kids.length : Int) + min 4000 (n2.text.size : Int) / 20 ≤ 9000
            omega
          · show q + 1 + min 4000 (n2.kids.length : Int) + min 4000 (n2.text.size : Int) / 20 < 4000 → _
            intro hq5
            show (i : Int) + 1 + tot (l.take i) + totK (l.take i) + ((k + 1 : Nat) : Int) + (allKids (t.nodes.take (k + 1))).length ≤ q + 1 + min 4000 (n2.kids.length : Int) + min 4000 (n2.text.size : Int) / 20
            omega
end Go.Proofs.YtlhkkngpppcfoaaDoor
