/-
  The law TreeBack, walked: it answers true for every node, every trees and every tree.
-/
import Derived.Test.YtlhkkngpppcfoaaDoorWorks
import Derived.Test.YtlhkkngpppcfoaaDoorBackP
set_option linter.all false
namespace Go.Bonsai
open Go Go.Sl Go.RowKit
theorem tot_take_le (l : List Tre) (i : Nat) : tot (l.take i) ≤ tot l := by
  have h : tot (l.take i ++ l.drop i) = tot (l.take i) + tot (l.drop i) := by simp only [tot, List.map_append, List.sum_append]
  rw [List.take_append_drop] at h
  omega
/-- trees, opened -/
def hTT (A : Option Addr) (n c : Nat) (rows : List (List Value)) (ts : List Tre) : HP :=
  ⟨fun S w => Arr 2 S w A n rows ∧ All2 (RTreeC S w) rows ts ∧ n ≤ c, fun h hh => ⟨hh.1.mono h, hh.2.1.imp fun _ _ => RTreeC.mono h, hh.2.2⟩, fun h hh => ⟨hh.1.loc h, hh.2.1.imp fun _ _ => RTreeC.loc h, hh.2.2⟩⟩
instance {A : Option Addr} {n c : Nat} {rows : List (List Value)} {ts : List Tre} : HasArr (hTT A n c rows ts) 2 A n rows := ⟨fun _ _ h => h.1⟩
theorem St.openT {w0 w : World} {L L' : List HP} {A : Option Addr} {c : Nat} {ts : List Tre} (hd : Del L (hTrees (.slice A ts.length c) ts) L') (h : St w0 L w) :
    ∃ x : { rows : List (List Value) // ∀ (i : Nat) t, ts[i]? = some t → ∃ K kc, rows[i]? = some [.slice K t.nodes.length kc, .int .i64 t.root] }, St w0 (hTT A ts.length c x.1 ts :: L') w := by
  refine St.weakEx (fun S w h => ?_) (h.del hd)
  obtain ⟨A', c', rows, e, h1, h2, h3⟩ := hTrees_on h
  injection e with e1 e2 e3
  subst e1; subst e3
  refine ⟨⟨rows, fun i t ht => ?_⟩, h1, h2, h3⟩
  obtain ⟨cs, hcs, K, kc, rfl, _⟩ := h2.get ht
  exact ⟨K, kc, hcs⟩
theorem St.get_tt {w0 w : World} {L : List HP} {A K : Option Addr} {n c kc i : Nat} {rows : List (List Value)} {ts : List Tre} {t : Tre} (h : St w0 L w) (ha : At L (hTT A n c rows ts)) (ht : ts[i]? = some t) (hr : rows[i]? = some [.slice K t.nodes.length kc, .int .i64 t.root]) :
    RTree (Old w) w (.agg #[.slice K t.nodes.length kc, .int .i64 t.root]) t := by
  have h2 := (h.at_all ha).2.1.2 i _ t hr ht
  exact h2.tree
theorem St.get_trees {w0 w : World} {L : List HP} {v : Value} {ts : List Tre} (h : St w0 L w) (ha : At L (hTrees v ts)) : RTrees (Old w) w v ts := hTrees_on (h.at_all ha)
theorem Small.of {l : List Tre} (h : Small l) : l.length ≤ bigN ∧ tot l + 1 ≤ bigN := by unfold Small at h; unfold bigN; omega
theorem deepL_snoc : ∀ (l : List Tre) (t : Tre), 0 ≤ depthP t → deepL (l ++ [t]) = max (deepL l) (depthP t)
  | [], t, h => by show max (depthP t) 0 = max 0 (depthP t); omega
  | x :: l, t, h => by rw [List.cons_append, deepL, deepL_snoc l t h, deepL]; omega
theorem Fo.depth_size : ∀ F : Fo, F.depth ≤ F.size
  | .nil => Int.le_refl _
  | .cons n k r => by
    have h1 := Fo.depth_size k
    have h2 := Fo.depth_size r
    simp only [Fo.depth, Fo.size]; omega
theorem depthP_le (t : Tre) : 0 ≤ depthP t ∧ depthP t ≤ t.nodes.length := by
  cases h : rightP t with
  | false => unfold depthP; rw [if_neg (by rw [h]; simp)]; omega
  | true =>
    have hR := rightP_spec h
    have h1 := Fo.depth_nonneg (foT t)
    have h2 := Fo.depth_size (foT t)
    rw [size_fo hR] at h2
    rw [depthP_fo hR]
    exact ⟨h1, h2⟩
theorem sizeP_le (t : Tre) : 0 ≤ sizeP t ∧ sizeP t ≤ t.nodes.length := by unfold sizeP; split <;> omega
theorem sizeL_snoc (l : List Tre) (t : Tre) : sizeL (l ++ [t]) = sizeL l + sizeP t := by simp [sizeL]
theorem allR_snoc (l : List Tre) (t : Tre) : allR (l ++ [t]) = (allR l && rightP t) := by simp [allR]
end Go.Bonsai
namespace Go.Proofs.YtlhkkngpppcfoaaDoor
open Go Go.Sl Go.RowKit Go.Bonsai
set_option linter.unusedVariables false
set_option linter.unusedSimpArgs false

set_option maxHeartbeats 4000000 in
theorem treeBack_any (kv v1 v2 : Value) (n : Nod) (l : List Tre) (t : Tre) (w : World) (hrn : RNode (Old w) w (n.cells kv) n) (hr1 : RTrees (Old w) w v1 l) (hr2 : RTree (Old w) w v2 t) (hwn : n.wf) (hl : l.length ≤ 4398046511104) (hw1 : ∀ x ∈ l, x.wf) (hw2 : t.wf) (hT : Tab w) :
    Calls Tryd.prog 6 #[.agg (n.cells kv).toArray, v1, v2] w (RetV w (.bool true)) := by
  have h1 := hr1
  have h2 := hr2
  obtain ⟨A1, c1, rows1, rfl, hA1, hrows1, hc1⟩ := hr1
  obtain ⟨nv, rfl, A2, c2, rows2, rfl, hA2, hrows2, hc2⟩ := hr2
  have hC2 : RTreeC (Old w) w [.slice A2 t.nodes.length c2, .int .i64 t.root] t := ⟨A2, c2, rfl, A2, c2, rows2, rfl, hA2, hrows2, hc2⟩
  clear hA2 hrows2
  have hwo : ∀ x ∈ [(⟨[n], 0⟩ : Tre)], x.wf := by intro x hx; simp at hx; subst hx; exact ⟨by unfold bigN; simp, by simpa using hwn, by unfold I64; simp⟩
  refine TC.calls (l := [.agg (n.cells kv).toArray, .slice A1 l.length c1, .agg #[.slice A2 t.nodes.length c2, .int .i64 t.root]]) Tryd.func6 rfl Tryd.ntmps6 rfl (St.start w) ?_
  repeat' (first | (refine W1 ?_) | (refine W2 (fun hc => ?_) (fun hc => ?_)) | (intro _))
  rename_i b0 b1
  refine T.callV rfl rfl (fun w' hw' => works_any w' (Tab.st hT hw')) ?_
  repeat' (first | (refine W1 ?_) | (refine W2 (fun hc => ?_) (fun hc => ?_)) | (intro _))
  refine T.callR rfl rfl (fun w' hw' => long_any _ l w' (St.old_trees hw' h1) hl hw1) (fun bb hs1 => ?_)
  cases bb with
  | true =>
    repeat' (first | (refine W1 ?_) | (refine W2 (fun hc => ?_) (fun hc => ?_)) | (intro _))
    refine T.callV rfl rfl (fun w' hw' => works_any w' (Tab.st hT hw')) ?_
    repeat' (first | (refine W1 ?_) | (refine W2 (fun hc => ?_) (fun hc => ?_)) | (intro _))
    exact TX.ret_tmp rfl rfl (fun w' hw => RetV.eq hw rfl)
  | false =>
  repeat' (first | (refine W1 ?_) | (refine W2 (fun hc => ?_) (fun hc => ?_)) | (intro _))
  rename_i B
  refine T.callR rfl rfl (fun w' hw' => long_any _ [t] w' (RTrees.old1b hw' AtA hC2) (by simp) (by intro x hx; simp at hx; subst hx; exact hw2)) (fun bb hs2 => ?_)
  cases bb with
  | true =>
    repeat' (first | (refine W1 ?_) | (refine W2 (fun hc => ?_) (fun hc => ?_)) | (intro _))
    refine T.callV rfl rfl (fun w' hw' => works_any w' (Tab.st hT hw')) ?_
    repeat' (first | (refine W1 ?_) | (refine W2 (fun hc => ?_) (fun hc => ?_)) | (intro _))
    exact TX.ret_tmp rfl rfl (fun w' hw => RetV.eq hw rfl)
  | false =>
  repeat' (first | (refine W1 ?_) | (refine W2 (fun hc => ?_) (fun hc => ?_)) | (intro _))
  rename_i B1 B2
  refine T.callR rfl rfl (fun w' hw' => long_any _ [⟨[n], 0⟩] w' (RTrees.oneN hw' (cs := n.cells kv) AtA AtA (RNode.old hw' hrn)) (by simp) hwo) (fun bb hs3 => ?_)
  cases bb with
  | true =>
    repeat' (first | (refine W1 ?_) | (refine W2 (fun hc => ?_) (fun hc => ?_)) | (intro _))
    refine T.callV rfl rfl (fun w' hw' => works_any w' (Tab.st hT hw')) ?_
    repeat' (first | (refine W1 ?_) | (refine W2 (fun hc => ?_) (fun hc => ?_)) | (intro _))
    exact TX.ret_tmp rfl rfl (fun w' hw => RetV.eq hw rfl)
  | false =>
  have hS1 := hs1 rfl
  have hS2 := hs2 rfl
  have hB := Small.of hS1
  clear hs1 hs2 hs3
  repeat' (first | (refine W1 ?_) | (refine W2 (fun hc => ?_) (fun hc => ?_)) | (intro _))
  refine T.callR rfl rfl (fun w' hw' => of_any n kv _ l w' hwn (St.old_trees hw' h1) hB.1 hw1 hB.2 (Tab.st hT hw')) (fun p _ => ?_)
  repeat' (first | (refine W1 ?_) | (refine W2 (fun hc => ?_) (fun hc => ?_)) | (intro _))
  rename_i b7
  refine T.callV rfl rfl (fun w' hw' => fits_any n _ _ w' (Tab.st hT hw') hwn) ?_
  repeat' (first | (refine TC.hold 6 ?_) | (refine W1 ?_) | (refine W2 (fun hc => ?_) (fun hc => ?_)) | (intro _))
  refine ⟨TC.cutA (ι := Int × Int) (fun k r => (9, .bool (ofP n l).2) :: (10, .int .i64 k.1) :: (11, .int .i64 k.2) :: r)
    (fun k w' => ((ofP n l).2 = true → k.1 = 1 + sizeL l ∧ k.2 = deepL l ∧ I64 (k.2 + 1)) ∧ St w [blk b7 [.slice p.1 (ofP n l).1.nodes.length p.2, .int .i64 (ofP n l).1.root] 24, hNodes (.slice p.1 (ofP n l).1.nodes.length p.2) (ofP n l).1.nodes, blk b1 [.slice A2 t.nodes.length c2, .int .i64 t.root] 24, blk b0 (n.cells kv) 34] w') KpA ?_ (fun k => ?_)⟩
  · repeat' (first | (refine W1 ?_) | (refine W2 (fun hc => ?_) (fun hc => ?_)) | (intro _))
    refine TC.loopA (ι := Nat × Bool × Int × Int) (0, fits n l.length, 1, 0) (fun k r => (12, .int .i64 k.1) :: (9, .bool k.2.1) :: (10, .int .i64 k.2.2.1) :: (11, .int .i64 k.2.2.2) :: r)
      (fun _ => St w [blk b7 [.slice p.1 (ofP n l).1.nodes.length p.2, .int .i64 (ofP n l).1.root] 24, hNodes (.slice p.1 (ofP n l).1.nodes.length p.2) (ofP n l).1.nodes, blk b1 [.slice A2 t.nodes.length c2, .int .i64 t.root] 24, blk b0 (n.cells kv) 34])
      (fun k => k.1 ≤ l.length ∧ k.2.1 = (fits n l.length && allR (l.take k.1)) ∧ k.2.2.1 = 1 + sizeL (l.take k.1) ∧ k.2.2.2 = deepL (l.take k.1) ∧ 1 ≤ k.2.2.1 ∧ k.2.2.1 ≤ 1 + tot (l.take k.1) ∧ 0 ≤ k.2.2.2 ∧ k.2.2.2 ≤ tot (l.take k.1)) (fun k => l.length - k.1) KpA SubA (fun w' hw => St.inc IncA hw)
      ⟨Nat.zero_le _, by simp [allR], rfl, rfl, by simp, by simp [tot], by simp, by simp [tot]⟩ ?_
    rintro ⟨i, ok, sz, dp⟩ ⟨hi, hok, hsz, hdp, hs1, hs2, hd1, hd2⟩
    simp only at hi hok hsz hdp hs1 hs2 hd1 hd2 ⊢
    have htl := tot_take_le l i
    by_cases hlt : i < l.length
    case neg =>
      have hck : decide ((i : Int) < (l.length : Int)) = false := by simp; omega
      obtain rfl : i = l.length := by omega
      rw [List.take_of_length_le (Nat.le_refl _)] at hok hsz hdp
      obtain rfl : ok = (ofP n l).2 := by rw [ofP_is, hok]
      repeat' (first | (refine W1 ?_) | (refine W2 (fun hc => ?_) (fun hc => ?_)) | (intro _))
      refine TX.join (sz, dp) SubA (fun w' hw => ⟨fun _ => ⟨hsz, hdp, by have := hB.2; unfold bigN at this; unfold I64; omega⟩, St.inc IncA hw⟩)
    have hck : decide ((i : Int) < (l.length : Int)) = true := by simp [hlt]
    obtain ⟨cs, hcs, hrc⟩ := hrows1.get (List.getElem?_eq_getElem hlt)
    have hwt := hw1 _ (List.getElem_mem hlt)
    have htt := tot_take l i hlt
    have htl2 := tot_take_le l (i + 1)
    have hts := List.take_succ_eq_append_getElem hlt
    generalize l[i] = x at *
    have hrt := hrc.tree
    obtain ⟨K, kc, rfl, Kn⟩ := hrc
    have hA' : A1 = some (A1.getD default) := hA1.some_ (by omega)
    have hz := sizeP_le x
    have hd := depthP_le x
    have hb2 := hB.2
    unfold bigN at hb2
    have hI : I64 (sz + sizeP x) := by unfold I64; omega
    have hround : ∀ ok' : Bool, ok' = (ok && rightP x) → ok' = (fits n l.length && allR (l.take (i + 1))) := by
      intro ok' h
      rw [h, hok, hts, allR_snoc, Bool.and_assoc]
    have hinv : sz + sizeP x = 1 + sizeL (l.take (i + 1)) ∧ max dp (depthP x) = deepL (l.take (i + 1)) ∧ 1 ≤ sz + sizeP x ∧ sz + sizeP x ≤ 1 + tot (l.take (i + 1)) ∧ 0 ≤ max dp (depthP x) ∧ max dp (depthP x) ≤ tot (l.take (i + 1)) := by
      refine ⟨by rw [hts, sizeL_snoc, hsz]; omega, by rw [hts, deepL_snoc _ _ hd.1, hdp], by omega, by omega, by omega, by omega⟩
    cases ok with
    | false =>
      repeat' (first | (refine W1 ?_) | (refine W2 (fun hc => ?_) (fun hc => ?_)) | (intro _))
      refine T.callV rfl rfl (fun w' hw' => size_any _ x w' (St.old_tree hw' hrt) hwt (Tab.st hT hw')) ?_
      repeat' (first | (refine W1 ?_) | (refine W2 (fun hc => ?_) (fun hc => ?_)) | (intro _))
      refine T.callV rfl rfl (fun w' hw' => depth_any _ x w' (St.old_tree hw' hrt) hwt (Tab.st hT hw')) ?_
      repeat' (first | (refine W1 ?_) | (refine W2 (fun hc => ?_) (fun hc => ?_)) | (intro _))
      exact TX.round (i + 1, false, sz + sizeP x, max dp (depthP x)) ⟨hlt, hround false rfl, hinv⟩ (show l.length - (i + 1) < l.length - i by omega) SubA (fun w' hw => St.inc IncA hw)
    | true =>
      repeat' (first | (refine W1 ?_) | (refine W2 (fun hc => ?_) (fun hc => ?_)) | (intro _))
      refine T.callV rfl rfl (fun w' hw' => right_any _ x w' (St.old_tree hw' hrt) hwt (Tab.st hT hw')) ?_
      repeat' (first | (refine W1 ?_) | (refine W2 (fun hc => ?_) (fun hc => ?_)) | (intro _))
      refine T.callV rfl rfl (fun w' hw' => size_any _ x w' (St.old_tree hw' hrt) hwt (Tab.st hT hw')) ?_
      repeat' (first | (refine W1 ?_) | (refine W2 (fun hc => ?_) (fun hc => ?_)) | (intro _))
      refine T.callV rfl rfl (fun w' hw' => depth_any _ x w' (St.old_tree hw' hrt) hwt (Tab.st hT hw')) ?_
      repeat' (first | (refine W1 ?_) | (refine W2 (fun hc => ?_) (fun hc => ?_)) | (intro _))
      exact TX.round (i + 1, rightP x, sz + sizeP x, max dp (depthP x)) ⟨hlt, hround _ rfl, hinv⟩ (show l.length - (i + 1) < l.length - i by omega) SubA (fun w' hw => St.inc IncA hw)
  · refine TC.fact (fun w hw => hw.1) (fun hk => ?_)
    refine TC.sub (fun w hw => hw.2) ?_
    have q0 : (!((ofP n l).2 == (ofP n l).2)) = false := by simp
    have hxw := ofP_wf hwn hw1 hB.2
    repeat' (first | (refine TC.hold 14 ?_) | (refine W1 ?_) | (refine W2 (fun hc => ?_) (fun hc => ?_)) | (intro _))
    refine ⟨TC.cutA (ι := Unit) (fun _ r => r) (fun _ => St w [blk b1 [.slice A2 t.nodes.length c2, .int .i64 t.root] 24]) KpA ?_ (fun _ => ?_)⟩
    · cases hio : (ofP n l).2 with
      | false =>
        repeat' (first | (refine W1 ?_) | (refine W2 (fun hc => ?_) (fun hc => ?_)) | (intro _))
        apply TX.join (); exact SubA; exact fun w' hw => St.inc IncA hw
      | true =>
      obtain ⟨hk1, hk2, hk3⟩ := hk hio
      have hio2 := hio
      rw [ofP_is, Bool.and_eq_true] at hio2
      obtain ⟨hf, hall⟩ := hio2
      have hall := allR_iff.1 hall
      have m := made hf hall
      have q1 : (!decide ((⟨[rootP (ofP n l).1], 0⟩ : Tre) = ⟨[{ n with kids := [] }], 0⟩)) = false := by rw [m.root]; simp
      have q2 : (!decide (((kidsP (ofP n l).1).length : Int) = (l.length : Int))) = false := by rw [made_kids hf hall]; simp
      have q3 : (!decide (sizeP (ofP n l).1 = k.1)) = false := by rw [made_size hf hall, hk1]; simp
      have q4 : (!decide (depthP (ofP n l).1 = k.2 + 1)) = false := by rw [made_depth hf hall, hk2]; simp
      have q5 : (!rightP (ofP n l).1) = false := by rw [m.right]; rfl
      have q6 : (!decide (cleanP (ofP n l).1 = (ofP n l).1)) = false := by rw [m.clean]; simp
      have hrk : (rootP (ofP n l).1).kids = [] := by rw [m.root]
      repeat' (first | (refine W1 ?_) | (refine W2 (fun hc => ?_) (fun hc => ?_)) | (intro _))
      refine T.callR rfl rfl (fun w' hw' => kids_any _ (ofP n l).1 w' (St.get_treeN hw' AtA) hxw (Tab.st hT hw')) (fun q _ => ?_)
      repeat' (first | (refine TC.hold 17 ?_) | (refine W1 ?_) | (refine W2 (fun hc => ?_) (fun hc => ?_)) | (intro _))
      refine ⟨TC.cutA (ι := Unit) (fun _ r => r) (fun _ => St w [hTrees (.slice q.1 (kidsP (ofP n l).1).length q.2) (kidsP (ofP n l).1), blk b1 [.slice A2 t.nodes.length c2, .int .i64 t.root] 24]) KpA ?_ (fun _ => ?_)⟩
      · apply TC.seq
        refine TC.lexT [] (.seg [0, 4] (.both (.seg [1] (.both (.seg [2, 3, 5, 6, 7, 8, 9, 10, 11, 12, 13, 14, 15, 16, 17, 19, 18, 20, 21, 22, 23, 25, 26, 24, 27, 28, 29, 30, 31, 32, 33, 34, 35, 37, 36, 38, 39, 40] .fin) (.seg [5, 6, 2, 3, 7, 8, 9, 10, 11, 12, 13, 14, 15, 16, 17, 19, 18, 20, 21, 22, 23, 25, 26, 24, 27, 28, 29, 30, 31, 32, 33, 34, 35, 37, 36, 38, 39, 40] .fin))) (.seg [5, 6, 1, 2, 3, 7, 8, 9, 10, 11, 12, 13, 14, 15, 16, 17, 19, 18, 20, 21, 22, 23, 25, 26, 24, 27, 28, 29, 30, 31, 32, 33, 34, 35, 37, 36, 38, 39, 40] .fin))) mixed (by kernel_rfl) (TT.seg rfl ?_)
        repeat' (first | (apply TX.tree) | (apply TT.both) | ((apply TT.seg; exact rfl)) | (refine W1l ?_) | (refine W2 (fun hc => ?_) (fun hc => ?_)) | (intro _))
        all_goals refine TL.kcall rfl rfl DropA (Cl.callV rfl (fun w' hw' => root_any _ (ofP n l).1 w' (St.get_treeN hw' AtA) hxw (Tab.st hT hw'))) (fun _ _ h => by first | exact h | exact h.drop 1 | exact h.drop 2 | exact h.drop 3) (fun _ => ?_)
        repeat' (first | (apply TX.tree) | (apply TT.both) | ((apply TT.seg; exact rfl)) | (refine W1l ?_) | (refine W2 (fun hc => ?_) (fun hc => ?_)) | (intro _))
        all_goals refine TL.kcall rfl rfl DropA (Cl.callV rfl (fun w' hw' => exact_any _ _ ⟨[rootP (ofP n l).1], 0⟩ ⟨[{ n with kids := [] }], 0⟩ w' ⟨_, rfl, RNodes.one hw' (cs := (rootP (ofP n l).1).cells (.slice none 0 0)) AtA (RNode.leaf hrk)⟩ ⟨_, rfl, RNodes.one hw' (cs := ({ n with kids := [] } : Nod).cells (.slice none 0 0)) AtA (RNode.leaf rfl)⟩ ⟨by unfold bigN; simp, by simpa using rootP_wf hxw, by unfold I64; simp⟩ ⟨by unfold bigN; simp, by simpa using hwn.wf0, by unfold I64; simp⟩)) (fun _ _ h => by first | exact h | exact h.drop 1 | exact h.drop 2 | exact h.drop 3) (fun _ => ?_)
        repeat' (first | (apply TX.tree) | (apply TT.both) | ((apply TT.seg; exact rfl)) | (refine W1l ?_) | (refine W2 (fun hc => ?_) (fun hc => ?_)) | (intro _))
        all_goals refine TL.kcall rfl rfl DropA (Cl.callV rfl (fun w' hw' => size_any _ (ofP n l).1 w' (St.get_treeN hw' AtA) hxw (Tab.st hT hw'))) (fun _ _ h => by first | exact h | exact h.drop 1 | exact h.drop 2 | exact h.drop 3) (fun _ => ?_)
        repeat' (first | (apply TX.tree) | (apply TT.both) | ((apply TT.seg; exact rfl)) | (refine W1l ?_) | (refine W2 (fun hc => ?_) (fun hc => ?_)) | (intro _))
        all_goals refine TL.kcall rfl rfl DropA (Cl.callV rfl (fun w' hw' => depth_any _ (ofP n l).1 w' (St.get_treeN hw' AtA) hxw (Tab.st hT hw'))) (fun _ _ h => by first | exact h | exact h.drop 1 | exact h.drop 2 | exact h.drop 3) (fun _ => ?_)
        repeat' (first | (apply TX.tree) | (apply TT.both) | ((apply TT.seg; exact rfl)) | (refine W1l ?_) | (refine W2 (fun hc => ?_) (fun hc => ?_)) | (intro _))
        all_goals refine TL.kcall rfl rfl DropA (Cl.callV rfl (fun w' hw' => right_any _ (ofP n l).1 w' (St.get_treeN hw' AtA) hxw (Tab.st hT hw'))) (fun _ _ h => by first | exact h | exact h.drop 1 | exact h.drop 2 | exact h.drop 3) (fun _ => ?_)
        repeat' (first | (apply TX.tree) | (apply TT.both) | ((apply TT.seg; exact rfl)) | (refine W1l ?_) | (refine W2 (fun hc => ?_) (fun hc => ?_)) | (intro _))
        all_goals refine TL.kcall rfl rfl DropA (Cl.callR rfl (fun w' hw' => clean_any _ (ofP n l).1 w' (St.get_treeN hw' AtA) hxw (Tab.st hT hw'))) (fun _ _ h => by first | exact h.drop 1 | exact h.drop 2 | exact h.drop 3) (fun pz => ?_)
        repeat' (first | (apply TX.tree) | (apply TT.both) | ((apply TT.seg; exact rfl)) | (refine W1l ?_) | (refine W2 (fun hc => ?_) (fun hc => ?_)) | (intro _))
        all_goals refine TL.kcall rfl rfl DropA (Cl.callV rfl (fun w' hw' => exact_any _ _ (cleanP (ofP n l).1) (ofP n l).1 w' (St.get_treeN hw' AtA) (St.get_treeN hw' AtA) (cleanP_wf hxw) hxw)) (fun _ _ h => by first | exact h | exact h.drop 1 | exact h.drop 2 | exact h.drop 3) (fun _ => ?_)
        repeat' (first | (apply TX.tree) | (apply TT.fin) | (refine W1 ?_) | (refine W2 (fun hc => ?_) (fun hc => ?_)) | (intro _))
        all_goals (apply TX.join (); exact SubA; exact fun w' hw => St.inc IncA hw)
      · have hkl : (kidsP (ofP n l).1).length = l.length := by rw [made_kids hf hall]; simp
        refine TC.ex (fun w hw => St.openT DelA hw) (fun x => ?_)
        obtain ⟨rows, hrows⟩ := x
        dsimp only
        repeat' (first | (refine W1 ?_) | (refine W2 (fun hc => ?_) (fun hc => ?_)) | (intro _))
        refine TC.loopA (ι := Nat) 0 (fun j r => (14, .int .i64 j) :: r) (fun _ => St w [hTT q.1 (kidsP (ofP n l).1).length q.2 rows (kidsP (ofP n l).1), blk b1 [.slice A2 t.nodes.length c2, .int .i64 t.root] 24]) (fun j => j ≤ l.length) (fun j => l.length - j) KpA SubA (fun _ h => St.inc IncA h) (Nat.zero_le _) ?_
        intro i hi
        by_cases hlt : i < l.length
        · have hck : decide ((i : Int) < (l.length : Int)) = true := by simp [hlt]
          obtain ⟨cs, hcs, hrc⟩ := hrows1.get (List.getElem?_eq_getElem hlt)
          have hwt := hw1 _ (List.getElem_mem hlt)
          have hry := hall _ (List.getElem_mem hlt)
          have hkx : (kidsP (ofP n l).1)[i]? = some (cleanP l[i]) := by rw [made_kids hf hall, List.getElem?_map, List.getElem?_eq_getElem hlt]; rfl
          generalize l[i] = y at *
          obtain ⟨K1, kc1, hrow⟩ := hrows i _ hkx
          have hrt := hrc.tree
          obtain ⟨K, kc, rfl, Kn⟩ := hrc
          have hA' : A1 = some (A1.getD default) := hA1.some_ (by omega)
          have hq : (!sameP (cleanP y) y) = false := by rw [same_comm, same_clean hry]; rfl
          refine TC.fact (φ := q.1 = some (q.1.getD default)) (fun w hw => (St.has_arr hw (At.here (H := hTT q.1 (kidsP (ofP n l).1).length q.2 rows (kidsP (ofP n l).1)))).some_ (by omega)) (fun hqs => ?_)
          repeat' (first | (refine W1 ?_) | (refine W2 (fun hc => ?_) (fun hc => ?_)) | (intro _))
          refine TL.kcall rfl rfl DropA (Cl.callV rfl (fun w' hw' => sameT_any _ _ (cleanP y) y w' (by exact St.get_tt hw' AtA hkx hrow) (St.old_tree hw' hrt) (cleanP_wf hwt) hwt (Tab.st hT hw'))) (fun _ _ h => by first | exact h | exact h.drop 1 | exact h.drop 2 | exact h.drop 3) (fun _ => ?_)
          repeat' (first | (refine W1 ?_) | (refine W2 (fun hc => ?_) (fun hc => ?_)) | (intro _))
          exact TX.round (i + 1) hlt (by omega) SubA (fun w' hw => St.inc IncA hw)
        · have hck : decide ((i : Int) < (l.length : Int)) = false := by simp; omega
          repeat' (first | (refine W1 ?_) | (refine W2 (fun hc => ?_) (fun hc => ?_)) | (intro _))
          apply TX.join (); exact SubA; exact fun w' hw => St.inc IncA hw
    · have hkt := kidsP_tot t
      have hl2 := hw2.len
      have hkb : (kidsP t).length ≤ bigN ∧ tot (kidsP t) + 1 ≤ bigN := by unfold bigN at *; omega
      have hyw := ofP_wf (rootP_wf hw2) (kidsP_wf hw2) hkb.2
      repeat' (first | (refine TC.holdR 24 ?_) | (refine W1 ?_) | (refine W2 (fun hc => ?_) (fun hc => ?_)) | (intro _))
      refine ⟨TC.cutA (ι := Nat × (Option Addr × Nat)) (fun k r => (15, .pointer (some ⟨k.1, 0, none⟩)) :: (16, .bool (ofP (rootP t) (kidsP t)).2) :: r) (fun k => St w [blk k.1 [.slice k.2.1 (ofP (rootP t) (kidsP t)).1.nodes.length k.2.2, .int .i64 (ofP (rootP t) (kidsP t)).1.root] 24, hNodes (.slice k.2.1 (ofP (rootP t) (kidsP t)).1.nodes.length k.2.2) (ofP (rootP t) (kidsP t)).1.nodes, blk b1 [.slice A2 t.nodes.length c2, .int .i64 t.root] 24]) KpA
        (TC.lexT [] (.seg [0, 2] (.both (.seg [1] (.both (.seg [3] (.both (.seg [4, 5, 6, 7, 8, 9, 10] .fin) (.seg [8, 4, 5, 6, 7, 9, 10] .fin))) (.seg [8, 3, 4, 5, 6, 7, 9, 10] .fin))) (.seg [8, 1, 3, 4, 5, 6, 7, 9, 10] .fin))) mixed (by kernel_rfl) (TT.seg rfl ?_)) (fun k => ?_)⟩
      · repeat' (first | (apply TX.tree) | (apply TT.both) | ((apply TT.seg; exact rfl)) | (refine W1l ?_) | (refine W2 (fun hc => ?_) (fun hc => ?_)) | (intro _))
        all_goals refine TL.kcall rfl rfl DropA (Cl.callV rfl (fun w' hw' => root_any _ t w' (St.old_tree hw' h2) hw2 (Tab.st hT hw'))) (fun _ _ h => by first | exact h | exact h.drop 1 | exact h.drop 2 | exact h.drop 3) (fun _ => ?_)
        repeat' (first | (apply TX.tree) | (apply TT.both) | ((apply TT.seg; exact rfl)) | (refine W1l ?_) | (refine W2 (fun hc => ?_) (fun hc => ?_)) | (intro _))
        all_goals refine TL.kcall rfl rfl DropA (Cl.callR rfl (fun w' hw' => kids_any _ t w' (St.old_tree hw' h2) hw2 (Tab.st hT hw'))) (fun _ _ h => by first | exact h.drop 1 | exact h.drop 2 | exact h.drop 3) (fun pz => ?_)
        repeat' (first | (apply TX.tree) | (apply TT.both) | ((apply TT.seg; exact rfl)) | (refine W1l ?_) | (refine W2 (fun hc => ?_) (fun hc => ?_)) | (intro _))
        all_goals refine TL.kcall rfl rfl DropA (Cl.callR rfl (fun w' hw' => of_any (rootP t) _ _ (kidsP t) w' (rootP_wf hw2) (St.get_trees hw' AtA) hkb.1 (kidsP_wf hw2) hkb.2 (Tab.st hT hw'))) (fun _ _ h => by first | exact h.drop 1 | exact h.drop 2 | exact h.drop 3) (fun pz => ?_)
        repeat' (first | (apply TX.tree) | (apply TT.both) | ((apply TT.seg; exact rfl)) | (apply TT.fin) | (refine W1l ?_) | (refine W2 (fun hc => ?_) (fun hc => ?_)) | (intro _))
        all_goals (apply TX.join (_, _); exact SubA; exact fun w' hw => St.inc IncA hw)
      obtain ⟨b15, py⟩ := k
      dsimp only
      repeat' (first | (refine W1 ?_) | (refine W2 (fun hc => ?_) (fun hc => ?_)) | (intro _))
      refine T.callV rfl rfl (fun w' hw' => right_any _ t w' (St.old_tree hw' h2) hw2 (Tab.st hT hw')) ?_
      cases hrt : rightP t with
      | false =>
        repeat' (first | (refine W1 ?_) | (refine W2 (fun hc => ?_) (fun hc => ?_)) | (intro _))
        exact TX.ret_tmp rfl rfl (fun w' hw => RetV.eq hw rfl)
      | true =>
        have hbk := back hrt
        have hb2 : (ofP (rootP t) (kidsP t)).2 = true := by rw [hbk]
        have hb1 : sameP (ofP (rootP t) (kidsP t)).1 t = true := by rw [hbk, same_comm, same_clean hrt]
        repeat' (first | (refine W1 ?_) | (refine W2 (fun hc => ?_) (fun hc => ?_)) | (intro _))
        refine T.callV rfl rfl (fun w' hw' => sameT_any _ _ (ofP (rootP t) (kidsP t)).1 t w' (St.get_treeN hw' AtA) (St.old_tree hw' h2) hyw hw2 (Tab.st hT hw')) ?_
        repeat' (first | (refine W1 ?_) | (refine W2 (fun hc => ?_) (fun hc => ?_)) | (intro _))
        exact TX.ret_tmp rfl rfl (fun w' hw => RetV.eq hw (by rw [hb1]))
end Go.Proofs.YtlhkkngpppcfoaaDoor
