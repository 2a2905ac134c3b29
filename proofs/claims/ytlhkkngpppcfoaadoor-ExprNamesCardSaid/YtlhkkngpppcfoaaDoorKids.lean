/-
  tree.Size, tree.Root, tree.Kids, walked; a part of a slice; trees that are given back.
-/
import Derived.Test.YtlhkkngpppcfoaaDoorExact
set_option linter.all false
namespace Go.Sl
open Go.RowKit
theorem flatten_take_drop {rows : List (List Value)} {sz : Nat} (hl : ∀ r ∈ rows, r.length = sz) {l m j : Nat} {v : Value} (hle : l ≤ rows.length) (h : ((rows.drop l).take m).flatten[j]? = some v) : rows.flatten[l * sz + j]? = some v := by
  have e : rows.flatten = (rows.take l).flatten ++ (((rows.drop l).take m).flatten ++ ((rows.drop l).drop m).flatten) := by
    rw [← List.flatten_append, List.take_append_drop, ← List.flatten_append, List.take_append_drop]
  have hlen : (rows.take l).flatten.length = l * sz := by
    rw [length_flatten (sz := sz) (fun r hr => hl r (List.mem_of_mem_take hr)), List.length_take, Nat.min_eq_left hle]
  rw [e, List.getElem?_append_right (by omega), hlen, Nat.add_sub_cancel_left, List.getElem?_append_left (List.getElem?_eq_some_iff.1 h).1]
  exact h
theorem Arr.sub {sz n c l h : Nat} {S : Nat → Prop} {w : World} {A : Option Addr} {rows : List (List Value)} (ha : Arr sz S w A n rows) (hlh : l ≤ h) (hh : h ≤ n) (hc : n ≤ c) :
    Arr sz S w (if c = l then A else A.map (·.add (l * sz))) (h - l) ((rows.drop l).take (h - l)) := by
  have hn := ha.1
  refine ⟨by rw [List.length_take, List.length_drop]; omega, fun r hr => ha.2.1 r (List.mem_of_mem_drop (List.mem_of_mem_take hr)), fun hp => ?_⟩
  obtain ⟨a, rfl, h1, h2⟩ := ha.2.2 (by omega)
  rw [if_neg (by omega)]
  refine ⟨a.add (l * sz), rfl, by rw [add_block]; exact h1, fun j v hj => ?_⟩
  rw [add_add]
  exact h2 _ _ (flatten_take_drop ha.2.1 (by omega) hj)
end Go.Sl
namespace Go.Bonsai
open Go Go.Sl Go.RowKit
theorem RNodes.sub {S : Nat → Prop} {w : World} {A : Option Addr} {c l h : Nat} {ns : List Nod} (hr : RNodes S w (.slice A ns.length c) ns) (hlh : l ≤ h) (hh : h ≤ ns.length) :
    RNodes S w (.slice (if c = l then A else A.map (·.add (l * 9))) (h - l) (c - l)) ((ns.drop l).take (h - l)) := by
  obtain ⟨A', c', rows, e, h1, h2, h3⟩ := hr
  injection e with e1 e2 e3
  subst e1; subst e3
  have hlen : ((ns.drop l).take (h - l)).length = h - l := by rw [List.length_take, List.length_drop]; omega
  refine ⟨_, _, (rows.drop l).take (h - l), by rw [hlen], by rw [hlen]; exact h1.sub hlh hh h3, (h2.drop l).take _, by rw [hlen]; omega⟩
theorem hTR_snoc {A : Option Addr} {c : Nat} {rows : List (List Value)} {l : List Tre} {t : Tre} {S S' : Nat → Prop} {w : World} (h : (hNodes (.slice A t.nodes.length c) t.nodes).on S w) (h' : (hTR rows l).on S' w) (hd : ∀ b, S b → ¬ S' b) :
    (hTR (rows ++ [[.slice A t.nodes.length c, .int .i64 t.root]]) (l ++ [t])).on (fun b => S b ∨ S' b) w := by
  refine ⟨by simp [h'.1], ?_⟩
  rw [treePs_snoc h'.1]
  exact Sep.append h'.2 (S' := S) ⟨S, fun _ h => h, ⟨A, c, rfl, h⟩, trivial⟩ (fun _ h => .inr h) (fun _ h => .inl h) (fun b h1 h2 => hd b h2 h1)
theorem hTrees_join {e c : Nat} {A : Option Addr} {rows : List (List Value)} {l : List Tre} {S S' : Nat → Prop} {w : World} (h : (own e 2 A l.length c rows).on S w) (h' : (hTR rows l).on S' w) (hd : ∀ b, S b → ¬ S' b) :
    (hTrees (.slice A l.length c) l).on (fun b => S b ∨ S' b) w :=
  ⟨e, A, c, rows, S, rfl, fun _ h => .inl h, h, HP.mono _ (fun b hb => ⟨.inr hb, fun hs => hd b hs hb⟩) h'⟩
theorem St.trs_nil {w0 w : World} {L : List HP} (h : St w0 L w) : St w0 (hTR [] [] :: L) w := h.push Chg.refl ⟨rfl, trivial⟩

/-! ### the kids of a tree -/
def rootP (t : Tre) : Nod := if rightP t = true then { t.nodes.getD t.root.toNat .zero with kids := [] } else .zero
def Fo.trees : Fo → List Tre
  | .nil => []
  | .cons m j r => treT (.cons m j .nil) :: r.trees
def Fo.kidsL : Fo → List Tre
  | .nil => []
  | .cons _ k _ => k.trees
def kidsP (t : Tre) : List Tre := if rightP t = true then (foT t).kidsL else []
theorem Fo.app_nil : ∀ F : Fo, F.app .nil = F
  | .nil => rfl
  | .cons m j r => by rw [Fo.app, Fo.app_nil r]
theorem Fo.app_assoc : ∀ F G H : Fo, (F.app G).app H = F.app (G.app H)
  | .nil, G, H => rfl
  | .cons m j r, G, H => by simp only [Fo.app, Fo.app_assoc r G H]
theorem Fo.len_size : ∀ F : Fo, F.len ≤ F.size
  | .nil => Nat.le_refl _
  | .cons m j r => by have := Fo.len_size r; simp only [Fo.len, Fo.size]; omega
theorem Fo.trees_app : ∀ (F G : Fo), (F.app G).trees = F.trees ++ G.trees
  | .nil, G => rfl
  | .cons m j r, G => by simp [Fo.app, Fo.trees, Fo.trees_app r G]
theorem Fo.trees_len : ∀ (F : Fo), F.trees.length = F.len
  | .nil => rfl
  | .cons m j r => by simp [Fo.trees, Fo.len, Fo.trees_len r]
/-- nodes, with one node's kids in sight -/
def hNK (A : Option Addr) (n c : Nat) (rows : List (List Value)) (ns : List Nod) (K : Option Addr) (xs : List Int) : HP :=
  ⟨fun S w => (Arr 9 S w A n rows ∧ All2 (RNode S w) rows ns ∧ n ≤ c) ∧ Arr 1 S w K xs.length (irows xs), fun h hh => ⟨⟨hh.1.1.mono h, hh.1.2.1.imp fun _ _ => RNode.mono h, hh.1.2.2⟩, hh.2.mono h⟩,
    fun h hh => ⟨⟨hh.1.1.loc h, hh.1.2.1.imp fun _ _ => RNode.loc h, hh.1.2.2⟩, hh.2.loc h⟩⟩
instance {A : Option Addr} {n c : Nat} {rows : List (List Value)} {ns : List Nod} {K : Option Addr} {xs : List Int} : HasArr (hNK A n c rows ns K xs) 9 A n rows := ⟨fun _ _ h => h.1.1⟩
instance {A : Option Addr} {n c : Nat} {rows : List (List Value)} {ns : List Nod} {K : Option Addr} {xs : List Int} : HasArr (hNK A n c rows ns K xs) 1 K xs.length (irows xs) := ⟨fun _ _ h => h.2⟩
theorem St.openNK {w0 w : World} {L L' : List HP} {A : Option Addr} {c r : Nat} {ns : List Nod} {n : Nod} (hd : Del L (hNodes (.slice A ns.length c) ns) L') (hr : ns[r]? = some n) (h : St w0 L w) :
    ∃ x : { x : List (List Value) × Option Addr × Nat // x.1[r]? = some (n.cells (.slice x.2.1 n.kids.length x.2.2)) }, St w0 (hNK A ns.length c x.1.1 ns x.1.2.1 n.kids :: L') w := by
  refine St.weakEx (fun S w h => ?_) (h.del hd)
  obtain ⟨A', c', rows, e, h1, h2, h3⟩ := hNodes_on h
  injection e with e1 e2 e3
  subst e1; subst e3
  obtain ⟨cs, hcs, kv, rfl, K, kc, rfl, hK, _⟩ := h2.get hr
  exact ⟨⟨(rows, K, kc), hcs⟩, ⟨h1, h2, h3⟩, hK⟩
theorem St.get_nk {w0 w : World} {L : List HP} {A K : Option Addr} {c : Nat} {rows : List (List Value)} {ns : List Nod} {xs : List Int} (h : St w0 L w) (ha : At L (hNK A ns.length c rows ns K xs)) : RNodes (Old w) w (.slice A ns.length c) ns :=
  have := (h.at_all ha).1
  ⟨A, c, rows, rfl, this.1, this.2.1, this.2.2⟩
end Go.Bonsai
namespace Go.Proofs.YtlhkkngpppcfoaaDoor
open Go Go.Sl Go.RowKit Go.Bonsai
set_option linter.unusedVariables false
set_option linter.unusedSimpArgs false

theorem size_any (v : Value) (t : Tre) (w : World) (hr : RTree (Old w) w v t) (ht : t.wf) (hT : Tab w) : Calls Tryd.prog 35 #[v] w (RetV w (.int .i64 (sizeP t))) := by
  have hr0 := hr
  obtain ⟨nv, rfl, A, c, rows0, rfl, hA, hrows, hc⟩ := hr
  refine TC.calls (l := [.agg #[.slice A t.nodes.length c, .int .i64 t.root]]) Tryd.func35 rfl Tryd.ntmps35 rfl (St.start w) ?_
  cases hri : rightP t with
  | false =>
    have hrin : (!rightP t) = true := by rw [hri]; rfl
    repeat' (first | (refine T.callV rfl rfl (fun w' hw' => right_any _ t w' (St.old_tree hw' hr0) ht (Tab.st hT hw')) ?_) | (refine W1 ?_) | (refine W2 (fun hc => ?_) (fun hc => ?_)) | (intro _))
    exact TX.ret_tmp rfl rfl (fun w' hw => RetV.eq hw (by simp [sizeP, hri]))
  | true =>
    have hrin : (!rightP t) = false := by rw [hri]; rfl
    repeat' (first | (refine T.callV rfl rfl (fun w' hw' => right_any _ t w' (St.old_tree hw' hr0) ht (Tab.st hT hw')) ?_) | (refine W1 ?_) | (refine W2 (fun hc => ?_) (fun hc => ?_)) | (intro _))
    exact TX.ret_tmp rfl rfl (fun w' hw => RetV.eq hw (by simp [sizeP, hri]))

theorem root_any (v : Value) (t : Tre) (w : World) (hr : RTree (Old w) w v t) (ht : t.wf) (hT : Tab w) : Calls Tryd.prog 38 #[v] w (RetV w (.agg ((rootP t).cells (.slice none 0 0)).toArray)) := by
  have hr0 := hr
  obtain ⟨nv, rfl, A, c, rows0, rfl, hA, hrows, hc⟩ := hr
  refine TC.calls (l := [.agg #[.slice A t.nodes.length c, .int .i64 t.root]]) Tryd.func38 rfl Tryd.ntmps38 rfl (St.start w) ?_
  cases hri : rightP t with
  | false =>
    have hrin : (!rightP t) = true := by rw [hri]; rfl
    repeat' (first | (refine T.callV rfl rfl (fun w' hw' => right_any _ t w' (St.old_tree hw' hr0) ht (Tab.st hT hw')) ?_) | (refine W1 ?_) | (refine W2 (fun hc => ?_) (fun hc => ?_)) | (intro _))
    refine TX.ret_gen (rs := [.cell 2 34]) (vs := [.agg (Nod.zero.cells (.slice none 0 0)).toArray]) rfl (.cell rfl (blk_res (cs := Nod.zero.cells (.slice none 0 0)) AtA rfl) .nil) (fun w' hw => ?_)
    exact RetV.eq hw (by simp [rootP, hri]; rfl)
  | true =>
    have hrin : (!rightP t) = false := by rw [hri]; rfl
    have hR := rightP_spec hri
    have h0 := hR.root
    obtain ⟨r, hrt⟩ : ∃ r : Nat, t.root = r := ⟨t.root.toNat, by omega⟩
    have hrl : r < t.nodes.length := by omega
    obtain ⟨cs, hcs, kv, rfl, K, kc, rfl, hK, hkc⟩ := hrows.get (List.getElem?_eq_getElem hrl)
    have hg : t.nodes.getD t.root.toNat .zero = t.nodes[r] := by rw [hrt, Int.toNat_natCast, List.getD_eq_getElem?_getD, List.getElem?_eq_getElem hrl]; rfl
    have hwn := ht.nodes _ (List.getElem_mem hrl)
    generalize t.nodes[r] = n at *
    have hA' : A = some (A.getD default) := hA.some_ (by omega)
    have hr1 := hr0
    rw [hrt] at hr1
    have hrv : rootP t = { n with kids := [] } := by rw [rootP, if_pos hri, hg]
    rw [hrt, hrv]
    repeat' (first | (refine T.callV rfl rfl (fun w' hw' => right_any _ t w' (St.old_tree hw' hr1) ht (Tab.st hT hw')) ?_) | (refine W1 ?_) | (refine W2 (fun hc => ?_) (fun hc => ?_)) | (intro _))
    refine TX.ret_gen (rs := [.cell 2 34]) (vs := [.agg (({ n with kids := [] } : Nod).cells (.slice none 0 0)).toArray]) rfl (.cell rfl (blk_res (cs := ({ n with kids := [] } : Nod).cells (.slice none 0 0)) AtA rfl) .nil) (fun w' hw => RetV.eq hw rfl)

/-- new trees, in a slice -/
abbrev RetTs (w : World) (l : List Tre) : Ending → World → Prop := Ret w (fun p : Option Addr × Nat => .slice p.1 l.length p.2) (fun p => [hTrees (.slice p.1 l.length p.2) l]) (fun _ => True)

theorem kids_any (v : Value) (t : Tre) (w : World) (hr : RTree (Old w) w v t) (ht : t.wf) (hT : Tab w) : Calls Tryd.prog 37 #[v] w (RetTs w (kidsP t)) := by
  have hr0 := hr
  obtain ⟨nv, rfl, A, c, rows0, rfl, hA, hrows, hc⟩ := hr
  refine TC.calls (l := [.agg #[.slice A t.nodes.length c, .int .i64 t.root]]) Tryd.func37 rfl Tryd.ntmps37 rfl (St.start w) ?_
  repeat' (first | (refine W1 ?_) | (refine W2 (fun hc => ?_) (fun hc => ?_)) | (intro _))
  rename_i b0
  refine T.callR rfl rfl (fun w' hw' => clean_any _ t w' (St.old_tree hw' hr0) ht (Tab.st hT hw')) (fun p _ => ?_)
  cases hri : rightP t with
  | false =>
    have hl0 : decide (((cleanP t).nodes.length : Int) = 0) = true := by rw [cleanP_no hri]; rfl
    have hk0 : kidsP t = [] := by rw [kidsP, if_neg (by rw [hri]; simp)]
    rw [hk0]
    repeat' (first | (refine W1 ?_) | (refine W2 (fun hc => ?_) (fun hc => ?_)) | (intro _))
    refine TX.ret_tmp rfl rfl (fun w' hw => ?_)
    have h1 := St.push (H := hTrees (.slice none 0 0) []) hw Chg.refl hTrees_nil
    exact Ret.mk ((none : Option Addr), 0) trivial (.cons .here .nil) h1
  | true =>
    obtain ⟨n, F, hF, hb, hf⟩ := foT_one (rightP_spec hri)
    have hsz := size_fo (rightP_spec hri)
    have hlen := ht.len
    unfold bigN at hlen
    have hk0 : kidsP t = F.trees := by rw [kidsP, if_pos hri, hF]; rfl
    have hwx := cleanP_wf ht
    have hC : cleanP t = treT (.cons n F .nil) := by rw [cleanP_treT hri, hF]
    have hsz' : F.size + 1 = t.nodes.length := by rw [← hsz, hF]; simp [Fo.size]
    rw [hk0]
    rw [hC] at hwx ⊢
    have hl : (treT (.cons n F .nil)).nodes.length = F.size + 1 := by show ((Fo.cons n F .nil).ar 0).length = _; rw [Fo.ar_len]; rfl
    have hroot : (treT (.cons n F .nil)).root = (F.size : Int) := by show (((F.size + 1 + 0 : Nat) : Int) - 1) = _; omega
    have hnod : (treT (.cons n F .nil)).nodes = F.ar 0 ++ [{ n with kids := F.tops 0 }] := by show (Fo.cons n F .nil).ar 0 = _; simp [Fo.ar]
    have hg : (treT (.cons n F .nil)).nodes[F.size]? = some { n with kids := F.tops 0 } := by rw [hnod, List.getElem?_append_right (by rw [Fo.ar_len]; omega), Fo.ar_len]; simp
    rw [hroot]
    have hwn := hwx.nodes
    generalize (treT (.cons n F .nil)).nodes = N at *
    have hl0 : decide ((N.length : Int) = 0) = false := by rw [hl]; simp; omega
    repeat' (first | (refine W1 ?_) | (refine W2 (fun hc => ?_) (fun hc => ?_)) | (intro _))
    refine T.ex (fun w hw => St.openNK (r := F.size) DelA hg hw) (fun x => ?_)
    obtain ⟨⟨rows, K, kc⟩, hrow⟩ := x
    simp only at hrow
    refine T.fact (fun w hw => (St.at_all (H := hNK p.1 N.length p.2 rows N K (F.tops 0)) .here hw).1.2.2) (fun hcap => ?_)
    repeat' (first | (refine W1 ?_) | (refine W2 (fun hc => ?_) (fun hc => ?_)) | (intro _))
    refine TC.loopA (ι := (Fo × Fo) × (Nat × Nat × List Tre) × (Option Addr × Nat) × List (List Value)) ((.nil, F), (0, 0, []), (none, 0), [])
      (fun k r => (21, .int .i64 k.2.1.1) :: (4, .int .i64 k.2.1.2.1) :: (3, .slice k.2.2.1.1 k.2.1.1 k.2.2.1.2) :: r)
      (fun k => St w [own 24 2 k.2.2.1.1 k.2.1.1 k.2.2.1.2 k.2.2.2, hTR k.2.2.2 k.2.1.2.2, hNK p.1 N.length p.2 rows N K (F.tops 0), blk b0 [.slice p.1 N.length p.2, .int .i64 (F.size : Int)] 24])
      (fun k => k.1.1.app k.1.2 = F ∧ k.2.1.1 = k.1.1.len ∧ k.2.1.2.1 = k.1.1.size ∧ k.2.1.2.2 = k.1.1.trees) (fun k => k.1.2.len) KpA SubA (fun w' hw => St.inc IncA (St.own_nil (e := 24) (sz := 2) (St.trs_nil hw))) ⟨rfl, rfl, rfl, rfl⟩ ?_
    rintro ⟨⟨A1, B1⟩, ⟨i, st, l⟩, ⟨L1, c1⟩, lr⟩ ⟨hAB, hi, hst, hll⟩
    simp only at hAB hi hst hll ⊢
    have htl : (F.tops 0).length = F.len := Fo.tops_len F 0
    have hln : l.length = i := by rw [hll, Fo.trees_len, hi]
    cases B1 with
    | nil =>
      have hAF : A1 = F := by rw [← hAB, Fo.app_nil]
      have hck : decide ((i : Int) < ((F.tops 0).length : Int)) = false := by simp; rw [htl, hi, hAF]; omega
      repeat' (first | (refine W1 ?_) | (refine W2 (fun hc => ?_) (fun hc => ?_)) | (intro _))
      rw [← hAF, ← hll]
      refine TX.ret_tmp rfl rfl (fun w' hw => ?_)
      have h0 := St.del (H := hTR lr l) DelA hw
      have h1 := St.del (H := own 24 2 L1 i c1 lr) DelA h0
      subst hln
      have h2 := St.joinX (K := hTrees (.slice L1 l.length c1) l) (fun S S' w h h' hd => hTrees_join h h' hd) h1
      exact Ret.mk (L1, c1) trivial (.cons .here .nil) h2
    | cons m j r =>
      have hsize : F.size = A1.size + (j.size + 1 + r.size) := by rw [← hAB, Fo.size_app]; rfl
      have hFl : F.len = A1.len + (r.len + 1) := by rw [← hAB, Fo.len_app]; rfl
      have hlt : i < (F.tops 0).length := by omega
      have hck : decide ((i : Int) < ((F.tops 0).length : Int)) = true := by simp; exact hlt
      have hkk : (F.tops 0)[i]? = some ((st + j.size : Nat) : Int) := by
        rw [← hAB, Fo.tops_app, List.getElem?_append_right (by rw [Fo.tops_len]; omega), Fo.tops_len, hi, Nat.sub_self, hst, Nat.zero_add]
        rfl
      have hfit : (Fo.cons m j .nil).fit = true := by
        have h1 : F.fit = true := by simp only [Fo.fit, Bool.and_eq_true] at hf; exact hf.1.2
        rw [← hAB, Fo.fit_app] at h1
        simp only [Fo.fit, Bool.and_eq_true] at h1 ⊢
        exact ⟨⟨h1.2.1.1, h1.2.1.2⟩, trivial⟩
      have hsub : (N.drop st).take (st + j.size + 1 - st) = (Fo.cons m j .nil).ar st := by
        have e1 : N = A1.ar 0 ++ ((Fo.cons m j .nil).ar st ++ (r.ar (st + j.size + 1) ++ [{ n with kids := F.tops 0 }])) := by
          rw [hnod, ← hAB, Fo.ar_app, Nat.zero_add, ← hst]
          simp [Fo.ar]
        rw [e1, List.drop_append_of_le_length (by rw [Fo.ar_len]; omega), List.drop_of_length_le (by rw [Fo.ar_len]; omega), List.nil_append, List.take_append_of_le_length (by rw [Fo.ar_len]; simp [Fo.size]; omega), List.take_of_length_le (by rw [Fo.ar_len]; simp [Fo.size]; omega)]
      have hmv : movedP ((N.drop st).take (st + j.size + 1 - st)) (-(st : Int)) = (treT (.cons m j .nil)).nodes := by
        rw [hsub]
        show movedP ((Fo.cons m j .nil).ar st) (-(st : Int)) = (Fo.cons m j .nil).ar 0
        rw [show st = 0 + st by omega, ← Fo.ar_shift, Nat.zero_add]
        simp only [movedP, List.map_map]
        conv => rhs; rw [← List.map_id ((Fo.cons m j .nil).ar 0)]
        refine List.map_congr_left fun x _ => ?_
        cases x
        simp [Function.comp_def, Int.add_neg_cancel_right]
      have hrt : (treT (.cons m j .nil)).root = ((st + j.size : Nat) : Int) - (st : Int) := by show (((j.size + 1 + 0 : Nat) : Int) - 1) = _; omega
      have hls := Fo.len_size F
      repeat' (first | (refine W1 ?_) | (refine W2 (fun hc => ?_) (fun hc => ?_)) | (intro _))
      apply T.ev_; exact rfl; exact Ev.slice_slice (l := st) (h := st + j.size + 1) rfl (.inr ⟨_, _, rfl, rfl⟩) (.inr ⟨_, _, rfl, rfl⟩) (by omega) (by omega)
      repeat' (first | (apply T.ev_; exact rfl; exact Ev.neg rfl (by unfold I64; omega)) | (refine W1 ?_) | (refine W2 (fun hc => ?_) (fun hc => ?_)) | (intro _))
      refine T.callR (val := fun q : Option Addr × Nat => .slice q.1 (treT (.cons m j .nil)).nodes.length q.2) (HL := fun q => [hNodes (.slice q.1 (treT (.cons m j .nil)).nodes.length q.2) (treT (.cons m j .nil)).nodes]) (p := fun _ => True) rfl rfl (fun w' hw' => ?_) (fun q _ => ?_)
      · have hm := moved_any _ ((N.drop st).take (st + j.size + 1 - st)) (-(st : Int)) w' (RNodes.sub (l := st) (h := st + j.size + 1) (St.get_nk (A := p.1) (c := p.2) (rows := rows) (K := K) (xs := F.tops 0) hw' AtA) (by omega) (by omega)) (by rw [List.length_take, List.length_drop]; unfold bigN; omega) (fun x hx => hwn x (List.mem_of_mem_drop (List.mem_of_mem_take hx)))
          (fun x hx k hk => by
            rw [hsub] at hx
            obtain ⟨y, hy⟩ := List.mem_iff_getElem?.1 hx
            have h1 := (Fo.nok _ st hfit y x hy).2 k hk
            have h2 := (List.getElem?_eq_some_iff.1 hy).1
            rw [Fo.ar_len] at h2
            simp only [Fo.size] at h2
            unfold I64
            omega)
        rw [hmv] at hm
        exact hm
      repeat' (first | (refine W1 ?_) | (refine W2 (fun hc => ?_) (fun hc => ?_)) | (intro _))
      refine T.append (rows := lr) (news := [[.slice q.1 (treT (.cons m j .nil)).nodes.length q.2, .int .i64 (((st + j.size : Nat) : Int) - (st : Int))]]) rfl rfl rfl DelA (fun w hw => St.own_arr hw AtA) (fun _ _ r hr => by simp at hr; subst hr; rfl) (by unfold maxLen; omega) (by omega) (fun A5 c5 => ?_)
      repeat' (first | (refine W1 ?_) | (refine W2 (fun hc => ?_) (fun hc => ?_)) | (intro _))
      refine TX.round ((A1.app (.cons m j .nil), r), (i + 1, st + j.size + 1, l ++ [treT (.cons m j .nil)]), (A5, c5), lr ++ [[.slice q.1 (treT (.cons m j .nil)).nodes.length q.2, .int .i64 (treT (.cons m j .nil)).root]]) ⟨?_, ?_, ?_, ?_⟩ (show r.len < r.len + 1 by omega) SubA (fun w' hw => ?_)
      · show (A1.app _).app r = F
        rw [Fo.app_assoc, ← hAB]; rfl
      · show i + 1 = (A1.app _).len
        rw [Fo.len_app, hi]; rfl
      · show st + j.size + 1 = (A1.app _).size
        rw [Fo.size_app, hst]; simp [Fo.size]; omega
      · show l ++ _ = (A1.app _).trees
        rw [Fo.trees_app, hll]; rfl
      · rw [← hrt] at hw
        have h0 := St.del (H := hTR lr l) DelA hw
        have h1 := St.del (H := hNodes (.slice q.1 (treT (.cons m j .nil)).nodes.length q.2) (treT (.cons m j .nil)).nodes) DelA h0
        have h2 := St.joinX (K := hTR (lr ++ [[.slice q.1 (treT (.cons m j .nil)).nodes.length q.2, .int .i64 (treT (.cons m j .nil)).root]]) (l ++ [treT (.cons m j .nil)])) (fun S S' w h h' hd => hTR_snoc h h' hd) h1
        exact St.inc IncA h2
end Go.Proofs.YtlhkkngpppcfoaaDoor
