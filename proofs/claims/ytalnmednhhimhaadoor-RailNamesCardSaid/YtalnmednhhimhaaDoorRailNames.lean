/-
  The law RailNames, walked: it answers true.
-/
import Derived.Test.YtalnmednhhimhaaDoorNamesE
set_option linter.all false
namespace Go.Sl
open Go Go.Fl
theorem Ev.cneq {P : Program} {n : FD} {s : Sg} {M : World → Prop} {ty : TypeId} {x y : Operand} {t u : TypeId} {a b c d : Nat} {i j k l : Int} (hx : ev s x = some (.complex .f64 a b)) (hy : ev s y = some (.complex .f64 c d)) (ha : Den a i) (hb : Den b j) (hc : Den c k) (hd : Den d l) : Ev P n s M (.binOp .neq t x y u) ty (.bool (!(decide (i = k) && decide (j = l)))) := by
  have e1 : FloatKind.f64.format.order a c = some (compare i k) := order_den ha hc
  have e2 : FloatKind.f64.format.order b d = some (compare j l) := order_den hb hd
  have h1 : (compare i k = .eq) ↔ i = k := Int.compare_eq_eq
  have h2 : (compare j l = .eq) ↔ j = l := Int.compare_eq_eq
  refine ⟨fun ac w o ho ht' hf hm => ?_⟩
  simp [execOp, ho, hf.ev hx, hf.ev hy, eqGuard, binOp, Op.complexOp, Op.Complex.cmp, Op.floatCmp, e1, e2, asBool]
  by_cases hi : i = k
  · rw [h1.2 hi]
    by_cases hj : j = l
    · rw [h2.2 hj]; simp [hi, hj]
    · have : ¬ compare j l = .eq := fun hh => hj (h2.1 hh)
      cases hcc : compare j l <;> simp_all
  · have : ¬ compare i k = .eq := fun hh => hi (h1.1 hh)
    cases hcc : compare i k <;> cases hcd : compare j l <;> simp_all
theorem Ev.cneqF {P : Program} {n : FD} {s : Sg} {M : World → Prop} {ty : TypeId} {x y : Operand} {t u : TypeId} {a b c d : Nat} {i j : Int} (hx : ev s x = some (.complex .f64 a b)) (hy : ev s y = some (.complex .f64 c d)) (ha : Den a i) (hb : Den b j) (hc : Den c i) (hd : Den d j) : Ev P n s M (.binOp .neq t x y u) ty (.bool false) := by
  have h := Ev.cneq (P := P) (n := n) (M := M) (ty := ty) (t := t) (u := u) hx hy ha hb hc hd
  simpa using h
end Go.Sl
namespace Go.Proofs.YtalnmednhhimhaaDoor
open Go Go.Sl Go.RowKit Go.Bonsai Go.Fl
set_option linter.unusedVariables false
set_option linter.unusedSimpArgs false
theorem two_rows {w0 w : World} {L : List HP} {e B : Nat} {s1 s2 : ByteArray} {A1 A2 : Option Addr} {c1 c2 : Nat} {t1 t2 : Tre} (hw : St w0 L w) (ho : At L (own e 3 (some ⟨B, 0, none⟩) 2 2 [[.string s1, .slice A1 t1.nodes.length c1, .int .i64 t1.root], [.string s2, .slice A2 t2.nodes.length c2, .int .i64 t2.root]])) (h1 : At L (hNodes (.slice A1 t1.nodes.length c1) t1.nodes)) (h2 : At L (hNodes (.slice A2 t2.nodes.length c2) t2.nodes)) : RSl 3 RRow (Old w) w (.slice (some ⟨B, 0, none⟩) 2 2) [(s1, t1), (s2, t2)] :=
  ⟨_, _, _, rfl, St.own_arr hw ho, All2.more ⟨A1, c1, rfl, St.get_nodes hw h1⟩ (All2.more ⟨A2, c2, rfl, St.get_nodes hw h2⟩ .nil), Nat.le_refl _⟩
set_option maxHeartbeats 8000000 in
set_option maxRecDepth 100000 in
theorem railNames_any (w : World) (hT : Tab w) (hZ : TabZ w) (hI : TabI w) : Calls Tryd.prog 5 #[] w (RetV w (.bool true)) := by
  obtain ⟨x, hx⟩ : ∃ x, x = rule6 [120] := ⟨_, rfl⟩
  have wx : x.wf := by rw [hx]; exact one_wf (okSmall (by decide) rfl (by decide) (by decide) (by decide) rfl)
  have lx : x.nodes.length = 1 := by rw [hx]; rfl
  have tx_ : ∀ w', Calls Tryd.prog 12 #[.string ⟨#[120]⟩] w' (RetT w' x) := fun w' => by rw [hx]; exact tree_rule ⟨#[120]⟩ w'
  obtain ⟨a, ha⟩ : ∃ a, a = text6 [97, 98] := ⟨_, rfl⟩
  obtain ⟨em, he⟩ : ∃ em, em = empty6 := ⟨_, rfl⟩
  have wa : a.wf := by rw [ha]; exact one_wf (okSmall (by decide) rfl (by decide) (by decide) (by decide) rfl)
  have we : em.wf := by rw [he]; exact one_wf (okSmall (by decide) rfl (by decide) (by decide) (by decide) rfl)
  have la : a.nodes.length = 1 := by rw [ha]; rfl
  have le : em.nodes.length = 1 := by rw [he]; rfl
  have ta_ : ∀ w', Calls Tryd.prog 15 #[.string ⟨#[97, 98]⟩] w' (RetT w' a) := fun w' => by rw [ha]; exact tree_text ⟨#[97, 98]⟩ w'
  have te_ : ∀ w', Calls Tryd.prog 16 #[] w' (RetT w' em) := fun w' => by rw [he]; exact tree_empty w'
  obtain ⟨se, hse⟩ : ∃ se, se = set6 := ⟨_, rfl⟩
  have ws : se.wf := by rw [hse]; exact one_wf (okSmall (by decide) rfl (by decide) (by decide) (by decide) rfl)
  have ts_ : ∀ w', Calls Tryd.prog 17 #[.agg Bts.zero.vals.toArray] w' (RetT w' se) := fun w' => by rw [hse]; exact tree_set .zero w'
  have k5 := siz5
  rw [← hse] at k5
  clear hse
  have nam := nam2
  rw [← hx] at nam
  have one1 : tot [x] + 1 ≤ bigN := by simp only [tot, List.map_cons, List.map_nil, List.sum_cons, List.sum_nil, lx]; unfold bigN; omega
  have m1 : ∀ t ∈ [x], t.wf := fun t ht => by simp at ht; subst ht; assumption
  refine TC.calls (l := []) Tryd.func5 rfl Tryd.ntmps5 rfl (St.start w) ?_
  repeat' (first | ((apply T.callV (f := 7); exact rfl; exact rfl; (intro w' hw'; exact awake6_any w' (Tab.st hT hw') (TabZ.st hZ hw')))) | (refine W1 ?_) | (refine W2 (fun hc => ?_) (fun hc => ?_)) | (intro _))
  refine T.callR rfl rfl (fun w' hw' => tx_ w') (fun p1 _ => ?_)
  repeat' (first | ((refine TC.hold 4 ?_)) | (refine W1 ?_) | (refine W2 (fun hc => ?_) (fun hc => ?_)) | (intro _))
  rename_i v1
  refine ⟨TC.cutA (ι := Unit) (fun _ r => r) (fun _ => St w [blk v1 [.slice p1.1 x.nodes.length p1.2, .int .i64 x.root] 24, hNodes (.slice p1.1 x.nodes.length p1.2) x.nodes]) KpA ?_ (fun _ => ?_)⟩
  rotate_left
  · clear nam
    repeat' (first | ((refine TC.hold 14 ?_)) | (refine W1 ?_) | (refine W2 (fun hc => ?_) (fun hc => ?_)) | (intro _))
    refine ⟨TC.seq (TC.seq (TC.lexT [] (.seg [0, 1, 2, 3, 4, 5, 6, 7, 8, 9, 10, 11, 12, 13, 14, 15, 16, 17, 18, 19, 20, 21, 22, 23, 24, 25, 26, 27, 28, 29, 30, 31, 32, 33, 34, 35, 36, 37] .fin) mixed (by kernel_rfl) (TT.seg rfl ?_)))⟩
    repeat' (first | ((apply TL.kcallR (d := 113) (f := 15); exact rfl; (intro w' _; exact ta_ w'); exact rfl; exact rfl; exact DropA)) | ((apply TL.kcallR (d := 114) (f := 16); exact rfl; (intro w' _; exact te_ w'); exact rfl; exact rfl; exact DropA)) | (refine W1 ?_) | (refine W2 (fun hc => ?_) (fun hc => ?_)) | (intro _))
    rename_i qa _ qe _ B3
    have n6 : seq6.wf := okSmall (by decide) rfl (by decide) (by decide) (by decide) rfl
    have n7 : cap7.wf := okSmall (by decide) rfl (by decide) (by decide) (by decide) rfl
    have n8 : not8.wf := okSmall (by decide) rfl (by decide) (by decide) (by decide) rfl
    have n9 : cap9.wf := okSmall (by decide) rfl (by decide) (by decide) (by decide) rfl
    have tot3 : tot [x, a, em] + 1 ≤ bigN := by simp only [tot, List.map_cons, List.map_nil, List.sum_cons, List.sum_nil, lx, la, le]; unfold bigN; omega
    have tote : tot [em] + 1 ≤ bigN := by simp only [tot, List.map_cons, List.map_nil, List.sum_cons, List.sum_nil, le]; unfold bigN; omega
    have m3 : ∀ t ∈ [x, a, em], t.wf := fun t ht => by simp at ht; rcases ht with rfl | rfl | rfl <;> assumption
    have me : ∀ t ∈ [em], t.wf := fun t ht => by simp at ht; subst ht; assumption
    have k1 := siz1; have k2 := siz2; have k3 := siz3; have k4 := siz4
    rw [← hx, ← ha, ← he] at k1
    rw [← hx] at k2 k4
    rw [← he] at k3
    obtain ⟨z1, hz1⟩ : ∃ z, z = (ofP seq6 [x, a, em]).1 := ⟨_, rfl⟩
    obtain ⟨z2, hz2⟩ : ∃ z, z = (ofP cap7 [x]).1 := ⟨_, rfl⟩
    obtain ⟨z3, hz3⟩ : ∃ z, z = (ofP not8 [em]).1 := ⟨_, rfl⟩
    obtain ⟨z4, hz4⟩ : ∃ z, z = (ofP cap9 [x]).1 := ⟨_, rfl⟩
    have w1 : z1.wf := by rw [hz1]; exact ofP_wf n6 m3 tot3
    have w2 : z2.wf := by rw [hz2]; exact ofP_wf n7 m1 one1
    have w3 : z3.wf := by rw [hz3]; exact ofP_wf n8 me tote
    have w4 : z4.wf := by rw [hz4]; exact ofP_wf n9 m1 one1
    have o1 : ∀ v w', RTrees (Old w') w' v [x, a, em] → Tab w' → Calls Tryd.prog 13 #[.agg (seq6.cells (.slice none 0 0)).toArray, v] w' (RetT w' z1) := fun v w' h1 h2 => by
      rw [hz1]; exact of6_any seq6 _ v [x, a, em] w' n6 h1 (by show 3 ≤ bigN; unfold bigN; omega) m3 tot3 h2
    have o2 : ∀ v w', RTrees (Old w') w' v [x] → Tab w' → Calls Tryd.prog 13 #[.agg (cap7.cells (.slice none 0 0)).toArray, v] w' (RetT w' z2) := fun v w' h1 h2 => by
      rw [hz2]; exact of6_any cap7 _ v [x] w' n7 h1 (by show 1 ≤ bigN; unfold bigN; omega) m1 one1 h2
    have o3 : ∀ v w', RTrees (Old w') w' v [em] → Tab w' → Calls Tryd.prog 13 #[.agg (not8.cells (.slice none 0 0)).toArray, v] w' (RetT w' z3) := fun v w' h1 h2 => by
      rw [hz3]; exact of6_any not8 _ v [em] w' n8 h1 (by show 1 ≤ bigN; unfold bigN; omega) me tote h2
    have o4 : ∀ v w', RTrees (Old w') w' v [x] → Tab w' → Calls Tryd.prog 13 #[.agg (cap9.cells (.slice none 0 0)).toArray, v] w' (RetT w' z4) := fun v w' h1 h2 => by
      rw [hz4]; exact of6_any cap9 _ v [x] w' n9 h1 (by show 1 ≤ bigN; unfold bigN; omega) m1 one1 h2
    rw [← hz1] at k1
    rw [← hz2] at k2
    rw [← hz3] at k3
    rw [← hz4] at k4
    clear hz1 hz2 hz3 hz4
    refine TL.kcallR (d := 116) (f := 13) rfl (fun w' hw' => o1 _ w' (RTrees.of rfl hw' .here (All2.more (St.get_treeN (A := p1.1) (c := p1.2) hw' AtR).c (All2.more (St.get_treeN (A := qa.1) (c := qa.2) hw' AtR).c (All2.more (St.get_treeN (A := qe.1) (c := qe.2) hw' AtR).c .nil)))) (Tab.st hT hw')) rfl rfl DropA (fun r1 _ => ?_)
    repeat' (first | (refine W1 ?_) | (refine W2 (fun hc => ?_) (fun hc => ?_)) | (intro _))
    refine TL.kcallV (d := 117) (f := 14) rfl (fun w' hw' => by have h := size_any _ z1 19 1 1 9 2 w' (St.get_treeN (A := r1.1) (c := r1.2) hw' AtR) w1 (Tab.st hT hw') (TabZ.st hZ hw'); rw [k1] at h; exact h) rfl rfl DropA ?_
    refine TL.sub (M' := St w [blk v1 [.slice p1.1 x.nodes.length p1.2, .int .i64 x.root] 24, hNodes (.slice p1.1 x.nodes.length p1.2) x.nodes]) (fun w' hw => St.inc IncQ hw) ?_
    repeat' (first | (refine W1 ?_) | (refine W2 (fun hc => ?_) (fun hc => ?_)) | (intro _))
    rename_i B4
    refine TL.kcallR (d := 123) (f := 13) rfl (fun w' hw' => o2 _ w' (RTrees.of rfl hw' .here (All2.more (St.get_treeN (A := p1.1) (c := p1.2) hw' AtR).c .nil)) (Tab.st hT hw')) rfl rfl DropA (fun r2 _ => ?_)
    repeat' (first | (refine W1 ?_) | (refine W2 (fun hc => ?_) (fun hc => ?_)) | (intro _))
    refine TL.kcallV (d := 124) (f := 14) rfl (fun w' hw' => by have h := size_any _ z2 9 3 2 6 2 w' (St.get_treeN (A := r2.1) (c := r2.2) hw' AtR) w2 (Tab.st hT hw') (TabZ.st hZ hw'); rw [k2] at h; exact h) rfl rfl DropA ?_
    refine TL.sub (M' := St w [blk v1 [.slice p1.1 x.nodes.length p1.2, .int .i64 x.root] 24, hNodes (.slice p1.1 x.nodes.length p1.2) x.nodes]) (fun w' hw => St.inc IncQ hw) ?_
    repeat' (first | ((apply TL.kcallR (d := 129) (f := 16); exact rfl; (intro w' _; exact te_ w'); exact rfl; exact rfl; exact DropA)) | (refine W1 ?_) | (refine W2 (fun hc => ?_) (fun hc => ?_)) | (intro _))
    rename_i qf _ B5
    refine TL.kcallR (d := 131) (f := 13) rfl (fun w' hw' => o3 _ w' (RTrees.of rfl hw' .here (All2.more (St.get_treeN (A := qf.1) (c := qf.2) hw' AtR).c .nil)) (Tab.st hT hw')) rfl rfl DropA (fun r3 _ => ?_)
    repeat' (first | (refine W1 ?_) | (refine W2 (fun hc => ?_) (fun hc => ?_)) | (intro _))
    refine TL.kcallV (d := 132) (f := 14) rfl (fun w' hw' => by have h := size_any _ z3 6 2 1 4 1 w' (St.get_treeN (A := r3.1) (c := r3.2) hw' AtR) w3 (Tab.st hT hw') (TabZ.st hZ hw'); rw [k3] at h; exact h) rfl rfl DropA ?_
    refine TL.sub (M' := St w [blk v1 [.slice p1.1 x.nodes.length p1.2, .int .i64 x.root] 24, hNodes (.slice p1.1 x.nodes.length p1.2) x.nodes]) (fun w' hw => St.inc IncQ hw) ?_
    repeat' (first | (refine W1 ?_) | (refine W2 (fun hc => ?_) (fun hc => ?_)) | (intro _))
    rename_i B6
    refine TL.kcallR (d := 139) (f := 13) rfl (fun w' hw' => o4 _ w' (RTrees.of rfl hw' .here (All2.more (St.get_treeN (A := p1.1) (c := p1.2) hw' AtR).c .nil)) (Tab.st hT hw')) rfl rfl DropA (fun r4 _ => ?_)
    repeat' (first | (refine W1 ?_) | (refine W2 (fun hc => ?_) (fun hc => ?_)) | (intro _))
    refine TL.kcallV (d := 140) (f := 14) rfl (fun w' hw' => by have h := size_any _ z4 15 3 2 6 2 w' (St.get_treeN (A := r4.1) (c := r4.2) hw' AtR) w4 (Tab.st hT hw') (TabZ.st hZ hw'); rw [k4] at h; exact h) rfl rfl DropA ?_
    refine TL.sub (M' := St w [blk v1 [.slice p1.1 x.nodes.length p1.2, .int .i64 x.root] 24, hNodes (.slice p1.1 x.nodes.length p1.2) x.nodes]) (fun w' hw => St.inc IncQ hw) ?_
    repeat' (first | ((apply TL.kcallR (d := 145) (f := 17); exact rfl; (intro w' _; exact ts_ w'); exact rfl; exact rfl; exact DropA)) | (refine W1 ?_) | (refine W2 (fun hc => ?_) (fun hc => ?_)) | (intro _))
    rename_i r5 _
    refine TL.kcallV (d := 146) (f := 14) rfl (fun w' hw' => by have h := size_any _ se 6 1 1 3 1 w' (St.get_treeN (A := r5.1) (c := r5.2) hw' AtR) ws (Tab.st hT hw') (TabZ.st hZ hw'); rw [k5] at h; exact h) rfl rfl DropA ?_
    refine TL.sub (M' := St w [blk v1 [.slice p1.1 x.nodes.length p1.2, .int .i64 x.root] 24, hNodes (.slice p1.1 x.nodes.length p1.2) x.nodes]) (fun w' hw => St.inc IncQ hw) ?_
    repeat' (first | ((apply TX.tree)) | ((apply TT.fin)) | ((refine TC.hold 18 ?_)) | (refine W1 ?_) | (refine W2 (fun hc => ?_) (fun hc => ?_)) | (intro _))
    rename_i B7 v7 v8
    have hd0 : deepP 0 = x := hx.symm
    refine ⟨TC.cutA (ι := Option Addr × Nat) (fun _ r => r) (fun q => St w [hDeep 32 q, blk v8 [.slice q.1 (deepP 32).nodes.length q.2, .int .i64 (deepP 32).root] 24, blk v7 [.slice (some ⟨B7, 0, none⟩) 1 1, .int .i64 0] 24, hNodes (.slice (some ⟨B7, 0, none⟩) 1 1) bad6.nodes, blk v1 [.slice p1.1 x.nodes.length p1.2, .int .i64 x.root] 24, hNodes (.slice p1.1 x.nodes.length p1.2) x.nodes]) KpA ?_ (fun qd => ?_)⟩
    · repeat' (first | (refine W1 ?_) | (refine W2 (fun hc => ?_) (fun hc => ?_)) | (intro _))
      refine TC.loopA (ι := Nat × (Option Addr × Nat)) (0, p1) (fun k r => (9, .int .i64 k.1) :: r) (fun k => St w [hDeep k.1 k.2, blk v8 [.slice k.2.1 (deepP k.1).nodes.length k.2.2, .int .i64 (deepP k.1).root] 24, blk v7 [.slice (some ⟨B7, 0, none⟩) 1 1, .int .i64 0] 24, hNodes (.slice (some ⟨B7, 0, none⟩) 1 1) bad6.nodes, blk v1 [.slice p1.1 x.nodes.length p1.2, .int .i64 x.root] 24, hNodes (.slice p1.1 x.nodes.length p1.2) x.nodes]) (fun k => k.1 ≤ 32 ∧ (k.1 = 0 → k.2 = p1)) (fun k => 32 - k.1) KpA SubA (fun w' hw => ?_) ⟨Nat.zero_le _, fun _ => rfl⟩ ?_
      · have g0 : St w (blk v8 [.slice p1.1 x.nodes.length p1.2, .int .i64 x.root] 24 :: blk v7 [.slice (some ⟨B7, 0, none⟩) 1 1, .int .i64 0] 24 :: own 55 9 (some ⟨B7, 0, none⟩) 1 1 [Nod.cells ⟨4, .zero, ⟨#[]⟩, 0, 0, []⟩ (.slice none 0 0)] :: blk v1 [.slice p1.1 x.nodes.length p1.2, .int .i64 x.root] 24 :: hNodes (.slice p1.1 x.nodes.length p1.2) x.nodes :: []) w' := hw
        have g1 := St.push (H := hNone) g0 Chg.refl trivial
        have g2 := St.weakAt (H' := hNodes (.slice (some ⟨B7, 0, none⟩) 1 1) bad6.nodes) (.there (.there (.there .here))) (fun S w h => hNodes_leaf rfl h) g1
        show St w [hDeep 0 p1, blk v8 [.slice p1.1 (deepP 0).nodes.length p1.2, .int .i64 (deepP 0).root] 24, blk v7 [.slice (some ⟨B7, 0, none⟩) 1 1, .int .i64 0] 24, hNodes (.slice (some ⟨B7, 0, none⟩) 1 1) bad6.nodes, blk v1 [.slice p1.1 x.nodes.length p1.2, .int .i64 x.root] 24, hNodes (.slice p1.1 x.nodes.length p1.2) x.nodes] w'
        rw [hd0]
        exact g2
      rintro ⟨i, q⟩ ⟨hi, hq0⟩
      simp only at hi hq0 ⊢
      by_cases hlt : i < 32
      · have hck : decide ((i : Int) < 32) = true := decide_eq_true (by omega)
        have hwd := deep_wf i hi
        have o8 : ∀ v w', RTrees (Old w') w' v [deepP i] → Tab w' → Calls Tryd.prog 13 #[.agg (not8.cells (.slice none 0 0)).toArray, v] w' (RetT w' (deepP (i + 1))) := fun v w' h1 h2 => by
          exact of6_any not8 _ v [deepP i] w' n8 h1 (by show 1 ≤ bigN; unfold bigN; omega) (fun t ht => by rw [List.mem_singleton] at ht; subst ht; exact hwd) (deep_tot hi) h2
        have hrd : ∀ (L : List HP) w', St w L w' → At L (hDeep i q) → At L (hNodes (.slice p1.1 x.nodes.length p1.2) x.nodes) → RTree (Old w') w' (.agg #[.slice q.1 (deepP i).nodes.length q.2, .int .i64 (deepP i).root]) (deepP i) := by
          intro L w' hw ha hb
          by_cases h0 : i = 0
          · subst h0
            obtain rfl := hq0 rfl
            rw [hd0]
            exact St.get_treeN hw hb
          · unfold hDeep at ha
            rw [if_neg h0] at ha
            exact St.get_treeN hw ha
        have hne : hDeep (i + 1) = fun q => hNodes (.slice q.1 (deepP (i + 1)).nodes.length q.2) (deepP (i + 1)).nodes := by
          funext q
          unfold hDeep
          rw [if_neg (by omega)]
        generalize hDI : deepP i = di at *
        generalize hDJ : deepP (i + 1) = dj at *
        generalize hHD : hDeep i q = hd at *
        repeat' (first | (refine W1 ?_) | (refine W2 (fun hc => ?_) (fun hc => ?_)) | (intro _))
        rename_i B8
        refine T.callR (f := 13) rfl rfl (fun w' hw' => o8 _ w' (RTrees.of rfl hw' .here (All2.more (hrd _ w' hw' AtA AtA).c .nil)) (Tab.st hT hw')) (fun q2 _ => ?_)
        repeat' (first | (refine W1 ?_) | (refine W2 (fun hc => ?_) (fun hc => ?_)) | (intro _))
        refine TX.round (i + 1, q2) ⟨hlt, fun h => by simp at h⟩ (show 32 - (i + 1) < 32 - i by omega) ?_ (fun w' hw => ?_)
        · exact SubA
        · dsimp only
          rw [hDJ, hne]
          have g0 : St w (hNodes (.slice q2.1 dj.nodes.length q2.2) dj.nodes :: _ :: hd :: blk v8 [.slice q2.1 dj.nodes.length q2.2, .int .i64 dj.root] 24 :: blk v7 [.slice (some ⟨B7, 0, none⟩) 1 1, .int .i64 0] 24 :: hNodes (.slice (some ⟨B7, 0, none⟩) 1 1) bad6.nodes :: blk v1 [.slice p1.1 x.nodes.length p1.2, .int .i64 x.root] 24 :: hNodes (.slice p1.1 x.nodes.length p1.2) x.nodes :: []) w' := hw
          exact St.inc IncQ g0
      · have hck : decide ((i : Int) < 32) = false := decide_eq_false (by omega)
        obtain rfl : i = 32 := by omega
        repeat' (first | (refine W1 ?_) | (refine W2 (fun hc => ?_) (fun hc => ?_)) | (intro _))
        exact TX.join q SubA (fun w' hw => hw)
    have hdw := deep_wf 32 (Nat.le_refl _)
    have hdd := deep1
    rw [show hDeep 32 qd = hNodes (.slice qd.1 (deepP 32).nodes.length qd.2) (deepP 32).nodes from if_neg (by decide)]
    generalize deepP 32 = dt at *
    have hbr : ∀ (L : List HP) w', St w L w' → At L (hNodes (.slice (some ⟨B7, 0, none⟩) 1 1) bad6.nodes) → RTree (Old w') w' (.agg #[.slice (some ⟨B7, 0, none⟩) 1 1, .int .i64 0]) bad6 := fun L w' hw ha => ⟨_, rfl, hNodes_on (hw.at_all ha)⟩
    have wb : bad6.wf := one_wf ⟨by show (0 : Int) ≤ 4 ∧ (4 : Int) ≤ 255; omega, by show Bts.zero.wf; unfold Bts.wf Bts.zero; decide, by show (⟨#[]⟩ : ByteArray).size ≤ _; decide, by show I64 0; unfold I64; omega, by show I64 0; unfold I64; omega, ⟨by simp, by simp⟩⟩
    repeat' (first | (refine W1 ?_) | (refine W2 (fun hc => ?_) (fun hc => ?_)) | (intro _))
    refine T.callR (f := 8) rfl rfl (fun w' hw' => by have h := draw_any _ bad6 w' (hbr _ w' hw' AtA) wb (Tab.st hT hw') (TabZ.st hZ hw'); rw [bad1] at h; exact h) (fun y1 _ => ?_)
    dsimp only
    repeat' (first | (refine W1 ?_) | (refine W2 (fun hc => ?_) (fun hc => ?_)) | (intro _))
    rename_i v10
    refine T.callR (f := 8) rfl rfl (fun w' hw' => by have h := draw_any _ dt w' (St.get_treeN (A := qd.1) (c := qd.2) hw' AtA) hdw (Tab.st hT hw') (TabZ.st hZ hw'); rw [hdd] at h; exact h) (fun y2 _ => ?_)
    dsimp only
    repeat' (first | (refine W1 ?_) | (refine W2 (fun hc => ?_) (fun hc => ?_)) | (intro _))
    rename_i v12
    refine T.sub (M' := St w (blk v12 (rowD y2 .zero) 30 :: blk v10 (rowD y1 .zero) 30 :: blk v7 [.slice (some ⟨B7, 0, none⟩) 1 1, .int .i64 0] 24 :: hNodes (.slice (some ⟨B7, 0, none⟩) 1 1) bad6.nodes :: blk v1 [.slice p1.1 x.nodes.length p1.2, .int .i64 x.root] 24 :: hNodes (.slice p1.1 x.nodes.length p1.2) x.nodes :: [])) (fun w' hw => by
      have g0 : St w (blk v12 (rowD y2 .zero) 30 :: _ :: blk v10 (rowD y1 .zero) 30 :: _ :: _ :: _ :: blk v7 [.slice (some ⟨B7, 0, none⟩) 1 1, .int .i64 0] 24 :: hNodes (.slice (some ⟨B7, 0, none⟩) 1 1) bad6.nodes :: blk v1 [.slice p1.1 x.nodes.length p1.2, .int .i64 x.root] 24 :: hNodes (.slice p1.1 x.nodes.length p1.2) x.nodes :: []) w' := hw
      exact St.inc IncQ g0) ?_
    refine T.callR (f := 18) rfl rfl (fun w' hw' => by have h := sheet_any [] none 0 w' ⟨none, 0, [], rfl, Arr.nil, .nil, Nat.le_refl _⟩ (fun r hr => by cases hr) (Tab.st hT hw') (TabZ.st hZ hw'); rw [sh0] at h; exact h) (fun y3 _ => ?_)
    dsimp only
    repeat' (first | (refine W1 ?_) | (refine W2 (fun hc => ?_) (fun hc => ?_)) | (intro _))
    rename_i v14 B9
    have k1' := sh1
    rw [← hx] at k1'
    have wx2 : ∀ r ∈ ([(⟨#[97]⟩, x), (⟨#[98]⟩, bad6)] : List Row), r.2.wf := fun r hr => by
      simp only [List.mem_cons, List.not_mem_nil, or_false] at hr
      rcases hr with rfl | rfl <;> assumption
    refine T.callR (f := 18) rfl rfl (fun w' hw' => by
      have hq : RSl 3 RRow (Old w') w' (.slice (some ⟨B9, 0, none⟩) 2 2) [(⟨#[97]⟩, x), (⟨#[98]⟩, bad6)] := ⟨_, _, [[.string ⟨#[97]⟩, .slice p1.1 x.nodes.length p1.2, .int .i64 x.root], [.string ⟨#[98]⟩, .slice (some ⟨B7, 0, none⟩) 1 1, .int .i64 0]], rfl, St.own_arr hw' .here, All2.more ⟨p1.1, p1.2, rfl, hNodes_on (hw'.at_all (H := hNodes (.slice p1.1 x.nodes.length p1.2) x.nodes) AtA)⟩ (All2.more ⟨some ⟨B7, 0, none⟩, 1, rfl, hNodes_on (hw'.at_all (H := hNodes (.slice (some ⟨B7, 0, none⟩) 1 1) bad6.nodes) AtA)⟩ .nil), Nat.le_refl _⟩
      have h := sheet_any [(⟨#[97]⟩, x), (⟨#[98]⟩, bad6)] _ _ w' hq wx2 (Tab.st hT hw') (TabZ.st hZ hw')
      rw [k1'] at h
      exact h) (fun y4 _ => ?_)
    dsimp only
    repeat' (first | (refine W1 ?_) | (refine W2 (fun hc => ?_) (fun hc => ?_)) | (intro _))
    rename_i v16
    refine T.sub (M' := St w (blk v16 (rowD y4 .zero) 30 :: blk v14 (rowD y3 .zero) 30 :: blk v12 (rowD y2 .zero) 30 :: blk v10 (rowD y1 .zero) 30 :: blk v7 [.slice (some ⟨B7, 0, none⟩) 1 1, .int .i64 0] 24 :: hNodes (.slice (some ⟨B7, 0, none⟩) 1 1) bad6.nodes :: blk v1 [.slice p1.1 x.nodes.length p1.2, .int .i64 x.root] 24 :: hNodes (.slice p1.1 x.nodes.length p1.2) x.nodes :: [])) (fun w' hw => by
      have g0 : St w (blk v16 (rowD y4 .zero) 30 :: _ :: _ :: blk v14 (rowD y3 .zero) 30 :: _ :: blk v12 (rowD y2 .zero) 30 :: blk v10 (rowD y1 .zero) 30 :: blk v7 [.slice (some ⟨B7, 0, none⟩) 1 1, .int .i64 0] 24 :: hNodes (.slice (some ⟨B7, 0, none⟩) 1 1) bad6.nodes :: blk v1 [.slice p1.1 x.nodes.length p1.2, .int .i64 x.root] 24 :: hNodes (.slice p1.1 x.nodes.length p1.2) x.nodes :: []) w' := hw
      exact St.inc IncQ g0) ?_
    refine T.make (m := 65) rfl rfl rfl (by decide) (by unfold maxLen; decide) (fun B10 => ?_)
    repeat' (first | (refine W1 ?_) | (refine W2 (fun hc => ?_) (fun hc => ?_)) | (intro _))
    refine T.callR (f := 18) rfl rfl (fun w' hw' => by
      have hq : RSl 3 RRow (Old w') w' (.slice (some ⟨B10, 0, none⟩) 65 65) (List.replicate 65 ((⟨#[]⟩, ⟨[], 0⟩) : Row)) := ⟨_, _, List.replicate 65 [.string ⟨#[]⟩, .slice none 0 0, .int .i64 0], rfl, St.own_arr hw' .here, all2_rep ⟨none, 0, rfl, ⟨none, 0, [], rfl, Arr.nil, .nil, Nat.le_refl _⟩⟩ 65, Nat.le_refl _⟩
      have h := sheet_any (List.replicate 65 ((⟨#[]⟩, ⟨[], 0⟩) : Row)) _ _ w' hq (fun r hr => by rw [(List.mem_replicate.1 hr).2]; exact ⟨by show 0 ≤ bigN; omega, (fun n hn => by cases hn), by show I64 0; unfold I64; omega⟩) (Tab.st hT hw') (TabZ.st hZ hw')
      rw [sh2] at h
      exact h) (fun y5 _ => ?_)
    dsimp only
    repeat' (first | ((refine TC.hold 27 ?_)) | (refine W1 ?_) | (refine W2 (fun hc => ?_) (fun hc => ?_)) | (intro _))
    rename_i v18
    refine ⟨?_⟩
    refine TC.sub (M' := St w (blk v18 [.int .i64 0, .int .i64 0, .int .i64 0, .slice y5.1.1 0 y5.1.2, .slice y5.2.1 0 y5.2.2] 30 :: blk v16 [.int .i64 0, .int .i64 0, .int .i64 0, .slice y4.1.1 0 y4.1.2, .slice y4.2.1 0 y4.2.2] 30 :: blk v14 [.int .i64 0, .int .i64 0, .int .i64 0, .slice y3.1.1 0 y3.1.2, .slice y3.2.1 0 y3.2.2] 30 :: blk v12 [.int .i64 0, .int .i64 0, .int .i64 0, .slice y2.1.1 0 y2.1.2, .slice y2.2.1 0 y2.2.2] 30 :: blk v10 [.int .i64 0, .int .i64 0, .int .i64 0, .slice y1.1.1 0 y1.1.2, .slice y1.2.1 0 y1.2.2] 30 :: blk v7 [.slice (some ⟨B7, 0, none⟩) 1 1, .int .i64 0] 24 :: hNodes (.slice (some ⟨B7, 0, none⟩) 1 1) bad6.nodes :: blk v1 [.slice p1.1 x.nodes.length p1.2, .int .i64 x.root] 24 :: hNodes (.slice p1.1 x.nodes.length p1.2) x.nodes :: [])) (fun w' hw => by
      have g0 : St w (blk v18 [.int .i64 0, .int .i64 0, .int .i64 0, .slice y5.1.1 0 y5.1.2, .slice y5.2.1 0 y5.2.2] 30 :: _ :: _ :: blk v16 [.int .i64 0, .int .i64 0, .int .i64 0, .slice y4.1.1 0 y4.1.2, .slice y4.2.1 0 y4.2.2] 30 :: blk v14 [.int .i64 0, .int .i64 0, .int .i64 0, .slice y3.1.1 0 y3.1.2, .slice y3.2.1 0 y3.2.2] 30 :: blk v12 [.int .i64 0, .int .i64 0, .int .i64 0, .slice y2.1.1 0 y2.1.2, .slice y2.2.1 0 y2.2.2] 30 :: blk v10 [.int .i64 0, .int .i64 0, .int .i64 0, .slice y1.1.1 0 y1.1.2, .slice y1.2.1 0 y1.2.2] 30 :: blk v7 [.slice (some ⟨B7, 0, none⟩) 1 1, .int .i64 0] 24 :: hNodes (.slice (some ⟨B7, 0, none⟩) 1 1) bad6.nodes :: blk v1 [.slice p1.1 x.nodes.length p1.2, .int .i64 x.root] 24 :: hNodes (.slice p1.1 x.nodes.length p1.2) x.nodes :: []) w' := hw
      exact St.inc IncQ g0) ?_
    repeat' (first | ((refine TC.holdR 29 ?_)) | (refine W1 ?_) | (refine W2 (fun hc => ?_) (fun hc => ?_)) | (intro _))
    refine ⟨?_⟩
    refine TC.sub (M' := St w [blk v1 [.slice p1.1 x.nodes.length p1.2, .int .i64 x.root] 24, hNodes (.slice p1.1 x.nodes.length p1.2) x.nodes]) (fun w' hw => St.inc IncQ hw) ?_
    obtain ⟨c3, hc3⟩ : ∃ c3, c3 = text6 [97, 98, 99] := ⟨_, rfl⟩
    have wc3 : c3.wf := by rw [hc3]; exact one_wf (okSmall (by decide) rfl (by decide) (by decide) (by decide) rfl)
    have tc_ : ∀ w', Calls Tryd.prog 15 #[.string ⟨#[97, 98, 99]⟩] w' (RetT w' c3) := fun w' => by rw [hc3]; exact tree_text ⟨#[97, 98, 99]⟩ w'
    have h3 := sh3
    unfold twoR at h3
    rw [← hx, ← hc3] at h3
    obtain ⟨SB, hSB⟩ : ∃ SB, sheetB [(⟨#[111, 110, 101]⟩, x), (⟨#[63]⟩, c3)] = SB := ⟨_, rfl⟩
    rw [hSB] at h3
    obtain ⟨S, sok⟩ := SB
    obtain ⟨s0, s1, s2, s3, s4, s5, s6⟩ := h3
    simp only at s0 s1 s2 s3 s4 s5 s6
    subst s0
    have hsh : ∀ B w', RSl 3 RRow (Old w') w' (.slice (some ⟨B, 0, none⟩) 2 2) [(⟨#[111, 110, 101]⟩, x), (⟨#[63]⟩, c3)] → Tab w' → TabZ w' → Calls Tryd.prog 18 #[.agg #[.slice (some ⟨B, 0, none⟩) 2 2]] w' (RetDB w' (S, true)) := fun B w' h1 h2 h3 => by
      rw [← hSB]
      exact sheet_any [(⟨#[111, 110, 101]⟩, x), (⟨#[63]⟩, c3)] _ _ w' h1 (fun r hr => by simp only [List.mem_cons, List.not_mem_nil, or_false] at hr; rcases hr with rfl | rfl <;> assumption) h2 h3
    clear hSB hc3
    refine TC.cutA (ι := Nat × PP) (fun k r => (20, .pointer (some ⟨k.1, 0, none⟩)) :: (21, .bool true) :: r) (fun k => St w [blk k.1 (rowD k.2 S) 30, hDr k.2 S, blk v1 [.slice p1.1 x.nodes.length p1.2, .int .i64 x.root] 24, hNodes (.slice p1.1 x.nodes.length p1.2) x.nodes]) KpA ?_ (fun k => ?_)
    · refine TC.lexT [] (.seg [0, 1] (.both (.seg [2, 3] (.both (.seg [4, 5] (.both (.seg [6, 7, 8, 9, 10, 11, 12] .fin) (.seg [10, 6, 7, 8, 9, 11, 12] .fin))) (.seg [10, 4, 5, 6, 7, 8, 9, 11, 12] .fin))) (.seg [10, 2, 3, 4, 5, 6, 7, 8, 9, 11, 12] .fin))) mixed (by kernel_rfl) (TT.seg rfl ?_)
      repeat' (first | ((apply TX.tree)) | ((apply TT.both)) | ((apply TT.seg; exact rfl)) | ((apply TT.fin)) | ((apply TL.keep; exact rfl; exact rfl; exact St.base IncB; exact Ac.alloc rfl; exact fun _ => St.base IncB)) | ((apply TL.keep; exact rfl; exact rfl; exact St.base IncB; (apply Ac.lit2; exact rfl; exact rfl; exact rfl; exact rfl; exact rfl; exact rfl; exact rfl); exact fun _ => St.base IncB)) | ((apply TL.kcallR (f := 15); exact rfl; (intro w' _; exact tc_ w'); exact rfl; exact rfl; exact St.base IncB)) | ((apply TL.kcallR (f := 18); exact rfl; (intro w' hw'; exact hsh _ w' (two_rows hw' (by first | exact .here | exact .there .here | exact .there (.there .here)) AtR AtR) (Tab.st hT hw') (TabZ.st hZ hw')); exact rfl; exact rfl; exact St.base IncB)) | (refine W1 ?_) | (refine W2 (fun hc => ?_) (fun hc => ?_)) | (intro _))
      all_goals (apply TX.join (_, _); exact SubA; exact fun w' hw => St.inc IncQ hw)
    obtain ⟨v20, xS⟩ := k
    dsimp only
    obtain ⟨t1, t3, hls⟩ := ls4 s4 s5 s6
    refine TC.ex (ι := List (List Value)) (M' := fun lr => St w [hSr 2 RLab RLab.rd xS.2.1 S.ls.length lr S.ls, blk v20 (rowD xS S) 30]) (fun w' hw => ?_) (fun lr => ?_)
    · have g0 : St w (blk v20 (rowD xS S) 30 :: hDr xS S :: _ :: _ :: []) w' := hw
      obtain ⟨lr, h⟩ := St.weakEx (H' := fun rows => hSr 2 RLab RLab.rd xS.2.1 S.ls.length rows S.ls) (fun S w h => hSl_open (rowD_rd h).2) (St.del (H := hDr xS S) DelA g0)
      exact ⟨lr, St.inc IncQ h⟩
    have hll : S.ls.length = 4 := by rw [hls]; rfl
    refine TC.fact (φ := xS.2.1 = some (xS.2.1.getD default) ∧ (∃ a b, lr[0]? = some [.complex .f64 a b, .string ⟨#[111, 110, 101]⟩] ∧ Den a 0 ∧ Den b 0) ∧ (∃ a b, lr[1]? = some [.complex .f64 a b, .string t1] ∧ Den a 2 ∧ Den b 2) ∧ (∃ a b, lr[2]? = some [.complex .f64 a b, .string ⟨#[63]⟩] ∧ Den a 0 ∧ Den b 5) ∧ (∃ a b, lr[3]? = some [.complex .f64 a b, .string t3] ∧ Den a 2 ∧ Den b 7)) (fun w' hw => ?_) ?_
    · have ha := (St.sr_arr (xs := S.ls) (R := RLab) (hR := RLab.rd) hw AtA).some_ (by omega)
      have h := St.sr_all (A := xS.2.1) (n := S.ls.length) (xs := S.ls) (R := RLab) (hR := RLab.rd) hw AtA
      rw [hls] at h
      have g : ∀ (i : Nat) (p : Pt) (tx : ByteArray), ([((0, 0), ⟨#[111, 110, 101]⟩), ((2, 2), t1), ((0, 5), ⟨#[63]⟩), ((2, 7), t3)] : List (Pt × ByteArray))[i]? = some (p, tx) → ∃ a b, lr[i]? = some [.complex .f64 a b, .string tx] ∧ Den a p.1 ∧ Den b p.2 := fun i p tx hi => by
        obtain ⟨cs, h1, pv, rfl, u1, u2, rfl, h3, h4⟩ := h.get hi
        exact ⟨u1, u2, h1, h3, h4⟩
      exact ⟨ha, g 0 (0, 0) _ rfl, g 1 (2, 2) _ rfl, g 2 (0, 5) _ rfl, g 3 (2, 7) _ rfl⟩
    rintro ⟨hxs, ⟨a0, b0, hr0, da0, db0⟩, ⟨a1, b1, hr1, da1, db1⟩, ⟨a2, b2, hr2, da2, db2⟩, ⟨a3, b3, hr3, da3, db3⟩⟩
    have d5 : Den 4617315517961601024 5 := den_of (s := false) (n := 5) (by decide) (by decide +kernel) rfl (by decide) (by decide)
    have d7 : Den 4619567317775286272 7 := den_of (s := false) (n := 7) (by decide) (by decide +kernel) rfl (by decide) (by decide)
    have k1 : decide (S.w = 9) = true := decide_eq_true s1
    have k2 : decide (S.up = 0) = true := decide_eq_true s2
    have k3 : decide (S.dn = 8) = true := decide_eq_true s3
    have k4 : decide ((S.ls.length : Int) = 4) = true := decide_eq_true (by omega)
    repeat' (first | ((apply T.ev_ (d := 286); exact rfl; apply Ev.rlab_eqS; exact rfl; exact rfl; exact da0; exact db0; exact den0; exact den0)) | ((apply T.ev_ (d := 294); exact rfl; apply Ev.ceqT; exact rfl; exact rfl; exact da1; exact db1; exact den2; exact den2)) | ((apply T.ev_ (d := 302); exact rfl; apply Ev.rlab_eqS; exact rfl; exact rfl; exact da2; exact db2; exact den0; exact d5)) | ((apply T.ev_ (d := 310); exact rfl; apply Ev.ceqT; exact rfl; exact rfl; exact da3; exact db3; exact den2; exact d7)) | ((apply T.callV (d := 316) (f := 19); exact rfl; exact rfl; exact fun w' hw' => minS_any hw' (hI.st hw') .here)) | (refine W1 ?_) | (refine W2 (fun hc => ?_) (fun hc => ?_)) | (intro _))
    exact TX.ret_tmp rfl rfl (fun w' hw => RetV.eq hw (congrArg Value.bool (decide_eq_true rfl)))
  repeat' (first | (refine W1 ?_) | (refine W2 (fun hc => ?_) (fun hc => ?_)) | (intro _))
  refine T.lit (ps := [(0, .tmp 25), (1, .tmp 26), (2, .tmp 27), (3, .tmp 28), (4, .tmp 29), (5, .tmp 30), (6, .tmp 31), (7, .tmp 32), (8, .tmp 33)]) (xs := [.tmp 25, .tmp 26, .tmp 27, .tmp 28, .tmp 29, .tmp 30, .tmp 31, .tmp 32, .tmp 33]) (vs := namT.map namV) (rows := namT.map namL) rfl rfl rfl (fun v hv => by rw [List.mem_map] at hv; obtain ⟨r, _, rfl⟩ := hv; rfl) (by decide) rfl rfl (fun B => ?_)
  repeat' (first | (refine W1 ?_) | (refine W2 (fun hc => ?_) (fun hc => ?_)) | (intro _))
  refine TC.loopA (ι := Nat) 0 (fun i r => (36, .int .i64 i) :: r) (fun _ => St w [own 47 4 (some ⟨B, 0, none⟩) 9 9 (namT.map namL), blk v1 [.slice p1.1 x.nodes.length p1.2, .int .i64 x.root] 24, hNodes (.slice p1.1 x.nodes.length p1.2) x.nodes]) (fun i => i ≤ 9) (fun i => 9 - i) KpA SubA (fun w' hw => hw) (Nat.zero_le _) ?_
  intro i hi
  by_cases hlt : i < 9
  · have hck : decide ((i : Int) < (9 : Nat)) = true := decide_eq_true (by omega)
    have hlt' : i < namT.length := hlt
    have hg : namT[i]? = some namT[i] := List.getElem?_eq_getElem hlt'
    have hmem := List.getElem_mem hlt'
    have hrow : (namT.map namL)[i]? = some (namL namT[i]) := by rw [List.getElem?_map, hg]; rfl
    generalize namT[i] = r at *
    have hN := nam r hmem
    have hnw := repN_wf hN
    obtain ⟨mn, mx, lb, st⟩ := r
    obtain ⟨z, hz⟩ : ∃ z, z = (ofP (repN mn mx) [x]).1 := ⟨_, rfl⟩
    have wz : z.wf := by rw [hz]; exact ofP_wf hnw m1 one1
    have hof : ∀ v w', RTrees (Old w') w' v [x] → Tab w' → Calls Tryd.prog 13 #[.agg ((repN mn mx).cells (.slice none 0 0)).toArray, v] w' (RetT w' z) := fun v w' h1 h2 => by
      rw [hz]; exact of6_any (repN mn mx) _ v [x] w' hnw h1 (by show 1 ≤ bigN; unfold bigN; omega) m1 one1 h2
    rw [← hz] at hN
    clear hz
    obtain ⟨q, hq⟩ : ∃ q, drawB z = q := ⟨_, rfl⟩
    rw [hq] at hN
    obtain ⟨D, ok⟩ := q
    obtain ⟨h1, h2, h3, h4, h5, h6, h7, h8, h9, h10⟩ := hN
    simp only at h1 h2 h3 h4 h5 h6 h7 h8
    subst h1
    repeat' (first | (refine W1 ?_) | (refine W2 (fun hc => ?_) (fun hc => ?_)) | (intro _))
    rename_i v3 B2
    refine T.callR (f := 13) rfl rfl (fun w' hw' => hof _ w' (RTrees.of rfl hw' .here (All2.more (St.get_treeN (A := p1.1) (c := p1.2) hw' AtR).c .nil)) (Tab.st hT hw')) (fun q3 _ => ?_)
    repeat' (first | (refine W1 ?_) | (refine W2 (fun hc => ?_) (fun hc => ?_)) | (intro _))
    refine T.callR (f := 8) rfl rfl (fun w' hw' => by have h := draw_any _ z w' (St.get_treeN (A := q3.1) (c := q3.2) hw' AtA) wz (Tab.st hT hw') (TabZ.st hZ hw'); rw [hq] at h; exact h) (fun xD _ => ?_)
    dsimp only
    repeat' (first | ((refine TC.holdR 8 ?_)) | (refine W1 ?_) | (refine W2 (fun hc => ?_) (fun hc => ?_)) | (intro _))
    rename_i v4
    refine ⟨?_⟩
    refine TC.ex (ι := List (List Value)) (M' := fun lr => St w [hSr 2 RLab RLab.rd xD.2.1 D.ls.length lr D.ls, blk v4 (rowD xD D) 30, blk v3 [.int .i64 mn, .int .i64 mx, .string lb, .int .i64 st] 47, own 47 4 (some ⟨B, 0, none⟩) 9 9 (namT.map namL), blk v1 [.slice p1.1 x.nodes.length p1.2, .int .i64 x.root] 24, hNodes (.slice p1.1 x.nodes.length p1.2) x.nodes]) (fun w' hw => ?_) (fun lr => ?_)
    · have g0 : St w (blk v4 (rowD xD D) 30 :: hDr xD D :: _ :: _ :: blk v3 [.int .i64 mn, .int .i64 mx, .string lb, .int .i64 st] 47 :: own 47 4 (some ⟨B, 0, none⟩) 9 9 (namT.map namL) :: blk v1 [.slice p1.1 x.nodes.length p1.2, .int .i64 x.root] 24 :: hNodes (.slice p1.1 x.nodes.length p1.2) x.nodes :: []) w' := hw
      obtain ⟨lr, h⟩ := St.weakEx (H' := fun rows => hSr 2 RLab RLab.rd xD.2.1 D.ls.length rows D.ls) (fun S w h => hSl_open (rowD_rd h).2) (St.del (H := hDr xD D) DelA g0)
      exact ⟨lr, St.inc IncQ h⟩
    refine TC.fact (φ := (∃ u1 u2, lr[0]? = some [.complex .f64 u1 u2, .string lb] ∧ Den u1 2 ∧ Den u2 (-3)) ∧ xD.2.1 = some (xD.2.1.getD default)) (fun w' hw => ?_) ?_
    · have h := St.sr_all (A := xD.2.1) (n := D.ls.length) (xs := D.ls) (R := RLab) (hR := RLab.rd) hw AtA
      obtain ⟨cs, h1, pv, rfl, u1, u2, rfl, h3, h4⟩ := h.get h3
      exact ⟨⟨u1, u2, h1, h3, h4⟩, (St.sr_arr (xs := D.ls) (R := RLab) (hR := RLab.rd) hw AtA).some_ (by omega)⟩
    rintro ⟨⟨u1, u2, hl0, hu1, hu2⟩, hxs⟩
    have dN3 : Den 13837309855095848960 (-3) := den_of (s := true) (n := 3) (by decide) (by decide +kernel) rfl (by decide) (by decide)
    have k1 : (!decide ((D.ls.length : Int) = 2)) = false := by rw [decide_eq_true (by omega)]; rfl
    have k2 : (!decide (lb = lb)) = false := by rw [decide_eq_true rfl]; rfl
    have k3 : (!decide (D.w = max 5 (lb.size : Int) + 4)) = false := by rw [decide_eq_true h4]; rfl
    have k4 : (!decide (D.up = 3)) = false := by rw [decide_eq_true h5]; rfl
    have k5 : (!decide ((D.ss.length : Int) = st)) = false := by rw [decide_eq_true h7]; rfl
    by_cases hm0 : mn = 0
    · have km : decide (mn = 0) = true := decide_eq_true hm0
      rw [if_pos hm0] at h6
      have k6 : (!decide (D.dn = 2)) = false := by rw [decide_eq_true h6]; rfl
      repeat' (first | ((apply TL.pure_ (d := 79); exact rfl; exact rfl; exact Ev.cneqF rfl rfl hu1 hu2 den2 dN3)) | (refine W1 ?_) | (refine W2 (fun hc => ?_) (fun hc => ?_)) | (intro _))
      exact TX.round (i + 1) hlt (show 9 - (i + 1) < 9 - i by omega) SubA (fun w' hw => by
        have g0 : St w (_ :: _ :: _ :: own 47 4 (some ⟨B, 0, none⟩) 9 9 (namT.map namL) :: blk v1 [.slice p1.1 x.nodes.length p1.2, .int .i64 x.root] 24 :: hNodes (.slice p1.1 x.nodes.length p1.2) x.nodes :: []) w' := hw
        exact St.inc IncQ g0)
    · have km : decide (mn = 0) = false := decide_eq_false hm0
      rw [if_neg hm0] at h6
      have k6 : (!decide (D.dn = 1)) = false := by rw [decide_eq_true h6]; rfl
      repeat' (first | ((apply TL.pure_ (d := 79); exact rfl; exact rfl; exact Ev.cneqF rfl rfl hu1 hu2 den2 dN3)) | (refine W1 ?_) | (refine W2 (fun hc => ?_) (fun hc => ?_)) | (intro _))
      exact TX.round (i + 1) hlt (show 9 - (i + 1) < 9 - i by omega) SubA (fun w' hw => by
        have g0 : St w (_ :: _ :: _ :: own 47 4 (some ⟨B, 0, none⟩) 9 9 (namT.map namL) :: blk v1 [.slice p1.1 x.nodes.length p1.2, .int .i64 x.root] 24 :: hNodes (.slice p1.1 x.nodes.length p1.2) x.nodes :: []) w' := hw
        exact St.inc IncQ g0)
  · have hck : decide ((i : Int) < (9 : Nat)) = false := decide_eq_false (by omega)
    obtain rfl : i = 9 := by omega
    repeat' (first | (refine W1 ?_) | (refine W2 (fun hc => ?_) (fun hc => ?_)) | (intro _))
    exact TX.join () SubA (fun w' hw => St.inc IncQ hw)
end Go.Proofs.YtalnmednhhimhaaDoor
