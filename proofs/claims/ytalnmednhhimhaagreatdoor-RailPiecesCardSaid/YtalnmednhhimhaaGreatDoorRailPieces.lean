/-
  The law RailPieces, walked: it answers true.
-/
import Derived.Test.YtalnmednhhimhaaGreatDoorPiecesP
import Derived.Test.YtalnmednhhimhaaGreatDoorSame31
set_option linter.all false
namespace Go.Bonsai
open Go Go.RowKit Go.Sl
theorem flat_take_drop {rows : List (List Value)} {sz : Nat} (hl : ∀ r ∈ rows, r.length = sz) {l m j : Nat} {v : Value} (hle : l ≤ rows.length) (h : ((rows.drop l).take m).flatten[j]? = some v) : rows.flatten[l * sz + j]? = some v := by
  have e : rows.flatten = (rows.take l).flatten ++ (((rows.drop l).take m).flatten ++ ((rows.drop l).drop m).flatten) := by
    rw [← List.flatten_append, List.take_append_drop, ← List.flatten_append, List.take_append_drop]
  have hlen : (rows.take l).flatten.length = l * sz := by
    rw [length_flatten (sz := sz) (fun r hr => hl r (List.mem_of_mem_take hr)), List.length_take, Nat.min_eq_left hle]
  rw [e, List.getElem?_append_right (by omega), hlen, Nat.add_sub_cancel_left, List.getElem?_append_left (List.getElem?_eq_some_iff.1 h).1]
  exact h
/-- where a part of a slice begins -/
def partA (A : Option Addr) (c l sz : Nat) : Option Addr := if c = l then A else A.map (·.add (l * sz))
theorem Arr_part {sz n c l m : Nat} {S : Nat → Prop} {w : World} {A : Option Addr} {rows : List (List Value)} (ha : Arr sz S w A n rows) (hm : l + m ≤ n) (hc : n ≤ c) : Arr sz S w (partA A c l sz) m ((rows.drop l).take m) := by
  have hn := ha.1
  refine ⟨by rw [List.length_take, List.length_drop]; omega, fun r hr => ha.2.1 r (List.mem_of_mem_drop (List.mem_of_mem_take hr)), fun hp => ?_⟩
  obtain ⟨a, rfl, h1, h2⟩ := ha.2.2 (by omega)
  unfold partA
  rw [if_neg (by omega)]
  refine ⟨a.add (l * sz), rfl, by rw [add_block]; exact h1, fun j v hj => ?_⟩
  rw [add_add]
  exact h2 _ _ (flat_take_drop ha.2.1 (by omega) hj)
theorem RSl.part {α : Type} {sz : Nat} {R : (Nat → Prop) → World → List Value → α → Prop} {S : Nat → Prop} {w : World} {A : Option Addr} {n c l m : Nat} {xs ys : List α} (h : RSl sz R S w (.slice A n c) xs) (hm : l + m ≤ n) (hy : (xs.drop l).take m = ys) (hl : ys.length = m) : RSl sz R S w (.slice (partA A c l sz) m (c - l)) ys := by
  obtain ⟨A', c', rows, e, h1, h2, h3⟩ := h
  injection e with e1 e2 e3
  subst e1; subst e3
  refine ⟨partA A c l sz, c - l, (rows.drop l).take m, by rw [hl], ?_, ?_, by omega⟩
  · rw [hl]; exact Arr_part h1 (by omega) h3
  · rw [← hy]; exact (h2.drop l).take _
theorem Ev.slice_part {P : Program} {n : FD} {s : Sg} {M : World → Prop} {ty : TypeId} {x y z : Operand} {t e sz by_ : Nat} {zv : Value} {A : Option Addr} {m c l q : Nat} {k k' : IntKind} {h : Int} [ht : SlT P t e sz by_ zv] (hx : ev s x = some (.slice A m c)) (hy : ev s y = some (.int k (l : Int))) (hz : ev s z = some (.int k' h)) (hh : h = ((l + q : Nat) : Int)) (hc : l + q ≤ c) :
    Ev P n s M (.slice t x (some y) (some z) none) ty (.slice (partA A c l sz) q (c - l)) := by
  subst hh
  have h1 := Ev.slice_slice (P := P) (n := n) (M := M) (ty := ty) (t := t) (lo := some y) (hi := some z) (l := l) (h := l + q) hx (.inr ⟨y, k, rfl, hy⟩) (.inr ⟨z, k', rfl, hz⟩) (by omega) hc
  rw [Nat.add_sub_cancel_left] at h1
  exact h1
/-- the i-th piece, in its place -/
structure PieceS (ks : List Drw) (i : Nat) (k d : Drw) : Prop where
  w : d.w = k.w
  x : pX ks (i + 1) = pX ks i + d.w + 2
  a : pA ks (i + 1) = pA ks i + d.ss.length + 1
  l : pL ks (i + 1) = pL ks i + d.ls.length
  ale : pA ks i + d.ss.length ≤ (seqD ks).ss.length
  lle : pL ks i + d.ls.length ≤ (seqD ks).ls.length
  ss : ((seqD ks).ss.drop (pA ks i)).take d.ss.length = d.ss
  ls : ((seqD ks).ls.drop (pL ks i)).take d.ls.length = d.ls
  tss : ∀ s ∈ d.ss, s.length ≤ 1000 ∧ ∀ q ∈ s, (-1099511627776 ≤ q.1 ∧ q.1 ≤ 1099511627776) ∧ (-1099511627776 ≤ q.2 ∧ q.2 ≤ 1099511627776)
  tls : ∀ l ∈ d.ls, (-1099511627776 ≤ l.1.1 ∧ l.1.1 ≤ 1099511627776) ∧ (-1099511627776 ≤ l.1.2 ∧ l.1.2 ≤ 1099511627776)
theorem pieceS {ks : List Drw} {i : Nat} {k : Drw} (hk : ks[i]? = some k) (ht : TolD k) (hx : 0 ≤ pX ks i ∧ pX ks i ≤ 1000000000000) : PieceS ks i k (k.shift (pX ks i, 0)) := by
  have hp := piece hk
  have e1 : (k.shift (pX ks i, 0)).ss.length = k.ss.length := by simp [Drw.shift, mvS]
  have e2 : (k.shift (pX ks i, 0)).ls.length = k.ls.length := by simp [Drw.shift, mvL]
  refine ⟨rfl, hp.x, by rw [e1]; exact hp.a, by rw [e2]; exact hp.l, by rw [e1]; exact hp.ale, by rw [e2]; exact hp.lle, by rw [e1]; exact hp.ss, by rw [e2]; exact hp.ls, ?_, ?_⟩
  · intro s hs
    simp only [Drw.shift, mvS, List.mem_map] at hs
    obtain ⟨s0, hs0, rfl⟩ := hs
    refine ⟨by simp only [List.length_map]; have := ht.five s0 hs0; omega, fun q hq => ?_⟩
    simp only [List.mem_map] at hq
    obtain ⟨q0, hq0, rfl⟩ := hq
    obtain ⟨a, b, c, e⟩ := (ht.in_.ss s0 hs0).2.2 q0 hq0
    have := ht.w; have := ht.up; have := ht.dn
    simp only [mvP]
    omega
  · intro l hl
    simp only [Drw.shift, mvL, List.mem_map] at hl
    obtain ⟨l0, hl0, rfl⟩ := hl
    obtain ⟨a, b, c, e⟩ := ht.in_.ls l0 hl0
    have := ht.w; have := ht.up; have := ht.dn
    simp only [mvP]
    omega
/-- the places are within the drawing -/
theorem pX_ge {ks : List Drw} (hw : ∀ k ∈ ks, 0 ≤ k.w) : ∀ i : Nat, i ≤ ks.length → 0 ≤ pX ks i
  | 0, _ => by rw [(pieces_zero ks).1]; omega
  | i + 1, h => by
    have h1 := pX_ge hw i (by omega)
    have hp := (piece (ks := ks) (i := i) (List.getElem?_eq_getElem (by omega))).x
    have := hw _ (List.getElem_mem (show i < ks.length by omega))
    omega
theorem pX_le {ks : List Drw} (h0 : 0 < ks.length) (hw : ∀ k ∈ ks, 0 ≤ k.w) : ∀ (m i : Nat), i + m = ks.length → pX ks i ≤ (seqD ks).w + 2
  | 0, i, h => by
    obtain rfl : i = ks.length := by omega
    rw [(pieces_end h0).1]
    omega
  | m + 1, i, h => by
    have h1 := pX_le h0 hw m (i + 1) (by omega)
    have hp := (piece (ks := ks) (i := i) (List.getElem?_eq_getElem (by omega))).x
    have := hw _ (List.getElem_mem (show i < ks.length by omega))
    omega
/-- what may be drawn of a Seq: the pieces -/
structure SeqP (l : List Tre) (D : Drw) : Prop where
  n0 : 0 < l.length
  D : D = seqD (l.map drawP)
  may : ∀ t ∈ l, mayP t = true
  x : ∀ i, i ≤ l.length → 0 ≤ pX (l.map drawP) i ∧ pX (l.map drawP) i ≤ 5000002
theorem seqP {l : List Tre} {D : Drw} {n : Nod} (hk : n.kind = 4) (h : (ofP n l).2 = true) (hm : mayP (ofP n l).1 = true) (hD : D = drawP (ofP n l).1) (ht : TolD D) : SeqP l D := by
  have h1 := ofP_yes h
  have h2 : 0 < l.length := by
    have := h1.1
    unfold fits at this
    simp [hk] at this
    omega
  have e : D = seqD (l.map drawP) := by
    rw [hD, ofP_draw h]
    unfold nodeD
    simp [hk]
  have hmay := ofP_may h hm
  have hw : ∀ k ∈ l.map drawP, 0 ≤ k.w := by
    intro k hk
    simp only [List.mem_map] at hk
    obtain ⟨t, ht, rfl⟩ := hk
    exact (told_of (hmay t ht)).in_.w
  refine ⟨h2, e, hmay, fun i hi => ?_⟩
  have g1 := pX_ge hw i (by simpa using hi)
  have g2 := pX_le (ks := l.map drawP) (by simpa using h2) hw (l.length - i) i (by rw [List.length_map]; omega)
  have := ht.w
  rw [e] at this
  omega
def seqN : Nod := ⟨4, .zero, ⟨#[]⟩, 0, 0, []⟩
end Go.Bonsai
namespace Go.Proofs.YtalnmednhhimhaaGreatDoor
open Go Go.Sl Go.RowKit Go.Bonsai Go.Fl
set_option linter.unusedVariables false
set_option linter.unusedSimpArgs false
set_option maxHeartbeats 4000000 in
set_option maxRecDepth 100000 in
theorem railPieces_any (v : Value) (l : List Tre) (w : World) (hr : RTrees (Old w) w v l) (hl : l.length ≤ 4398046511104) (hwl : ∀ t ∈ l, t.wf) (hT : Tab w) (hZ : TabZ w) : Calls Tryz.prog 3 #[v] w (RetV w (.bool true)) := by
  have hr0 := hr
  obtain ⟨A, c, rows0, rfl, hA, hrows, hc⟩ := hr
  refine TC.calls (l := [.slice A l.length c]) Tryz.func3 rfl Tryz.ntmps3 rfl (St.start w) ?_
  repeat' (first | (refine W1 ?_) | (refine W2 (fun hc => ?_) (fun hc => ?_)) | (intro _))
  refine T.callR (f := 6) rfl rfl (fun w' hw' => large6_any _ l w' (St.old_trees hw' hr0) (by omega) hwl) (fun lg hlg => ?_)
  cases lg with
  | true =>
    repeat' (first | ((apply T.callV (f := 7); exact rfl; exact rfl; (intro w' hw'; exact awake6_any w' (Tab.st hT hw') (TabZ.st hZ hw')))) | (refine W1 ?_) | (refine W2 (fun hc => ?_) (fun hc => ?_)) | (intro _))
    exact TX.ret_tmp rfl rfl (fun w' hw => RetV.eq hw rfl)
  | false =>
    have hsm := hlg rfl
    unfold Small6 at hsm
    repeat' (first | ((apply T.callV (f := 7); exact rfl; exact rfl; (intro w' hw'; exact awake6_any w' (Tab.st hT hw') (TabZ.st hZ hw')))) | (refine W1 ?_) | (refine W2 (fun hc => ?_) (fun hc => ?_)) | (intro _))
    have hto : tot l + 1 ≤ bigN := by unfold bigN; omega
    have hn : seqN.wf := okSmall (by decide) rfl (by decide) (by decide) (by decide) rfl
    obtain ⟨z, hz⟩ : ∃ z, z = ofP seqN l := ⟨_, rfl⟩
    have hwz : z.1.wf := by rw [hz]; exact ofP_wf hn hwl hto
    refine T.callR rfl rfl (fun w' hw' => by have h := of_any seqN (.slice none 0 0) _ l w' hn (St.old_trees hw' hr0) (by unfold bigN; omega) hwl hto (Tab.st hT hw'); rw [← hz] at h; exact h) (fun q _ => ?_)
    obtain ⟨t, ok⟩ := z
    dsimp only
    repeat' (first | (refine W1 ?_) | (refine W2 (fun hc => ?_) (fun hc => ?_)) | (intro _))
    rename_i b3
    obtain ⟨r, hrr⟩ : ∃ r, drawB t = r := ⟨_, rfl⟩
    obtain ⟨D, dok⟩ := r
    have hrt : ∀ {L : List HP} {w'}, St w (blk b3 [.slice q.1 t.nodes.length q.2, .int .i64 t.root] 27 :: hNodes (.slice q.1 t.nodes.length q.2) t.nodes :: L) w' → RTree (Old w') w' (.agg #[.slice q.1 t.nodes.length q.2, .int .i64 t.root]) t := fun hw' => ⟨_, rfl, hNodes_on (hw'.at_all AtA)⟩
    refine T.callR (f := 9) rfl rfl (fun w' hw' => by have h := draw_any _ t w' (hrt hw') hwz (Tab.st hT hw') (TabZ.st hZ hw'); rw [hrr] at h; exact h) (fun x _ => ?_)
    dsimp only
    cases ok with
    | false =>
      repeat' (first | (refine W1 ?_) | (refine W2 (fun hc => ?_) (fun hc => ?_)) | (intro _))
      exact TX.ret_tmp rfl rfl (fun w' hw => RetV.eq hw rfl)
    | true =>
      cases dok with
      | false =>
        have hm := drawB_no hrr
        repeat' (first | (refine W1 ?_) | (refine W2 (fun hc => ?_) (fun hc => ?_)) | (intro _))
        refine T.callV (f := 10) rfl rfl (fun w' hw' => may_any _ t w' ⟨_, rfl, hNodes_on (hw'.at_all (H := hNodes (.slice q.1 t.nodes.length q.2) t.nodes) AtA)⟩ hwz (Tab.st hT hw')) ?_
        repeat' (first | (refine W1 ?_) | (refine W2 (fun hc => ?_) (fun hc => ?_)) | (intro _))
        exact TX.ret_tmp rfl rfl (fun w' hw => RetV.eq hw (by rw [hm]; rfl))
      | true =>
        obtain ⟨hD, hm, hDd⟩ := drawB_yes hrr
        have hzt : (ofP seqN l).1 = t := by rw [← hz]
        have hS := seqP (l := l) (D := D) (n := seqN) rfl (by rw [← hz]) (by rw [hzt]; exact hm) (by rw [hzt]; exact hDd) hD
        have n1 := hD.n1; have n2 := hD.n2; have dw := hD.w; have dw0 := hD.in_.w
        repeat' (first | (refine W1 ?_) | (refine W2 (fun hc => ?_) (fun hc => ?_)) | (intro _))
        rename_i b5
        refine TC.sub (M' := St w [blk b5 (rowD x D) 39, hDr x D]) (fun w' hw => by
          have g0 : St w (blk b5 (rowD x D) 39 :: hDr x D :: _) w' := hw
          exact St.inc IncQ g0) ?_
        refine TC.fact (φ := D.ss.length ≤ x.1.2 ∧ D.ls.length ≤ x.2.2) (fun w' hw => by
          obtain ⟨⟨_, _, _, e1, _, _, h1⟩, ⟨_, _, _, e2, _, _, h2⟩⟩ := RdD.of hw (x := x) (d := D) AtA
          obtain ⟨_, _, rfl⟩ := slice_inj e1
          obtain ⟨_, _, rfl⟩ := slice_inj e2
          exact ⟨h1, h2⟩) ?_
        rintro ⟨xc1, xc2⟩
        refine TC.loopA (ι := Nat × Nat × Nat × Int) (0, 0, 0, 0) (fun k r => (10, .int .i64 k.1) :: (9, .int .i64 k.2.2.1) :: (8, .int .i64 k.2.1) :: (7, .int .i64 k.2.2.2) :: r) (fun _ => St w [blk b5 (rowD x D) 39, hDr x D]) (fun k => k.1 ≤ l.length ∧ k.2.1 = pA (l.map drawP) k.1 ∧ k.2.2.1 = pL (l.map drawP) k.1 ∧ k.2.2.2 = pX (l.map drawP) k.1) (fun k => l.length - k.1) KpA SubA (fun w' hw => hw) ⟨Nat.zero_le _, (pieces_zero _).2.1.symm, (pieces_zero _).2.2.symm, (pieces_zero _).1.symm⟩ ?_
        rintro ⟨i, a, lb, px⟩ ⟨hi, ha, hlb, hpx⟩
        simp only at hi ha hlb hpx ⊢
        have hpb := hS.x i hi
        by_cases hlt : i < l.length
        · have hck : decide ((i : Int) < (l.length : Int)) = true := decide_eq_true (by omega)
          have hgx : l[i]? = some l[i] := List.getElem?_eq_getElem hlt
          have hmem := List.getElem_mem hlt
          have hwt := hwl _ hmem
          have hmt := hS.may _ hmem
          obtain ⟨cs, hcs, hrc⟩ := hrows.get hgx
          generalize l[i] = u at *
          have hA' : A = some (A.getD default) := hA.some_ (by omega)
          obtain ⟨K, kc, rfl, Kn⟩ := hrc
          have hru : RTree (Old w) w (.agg #[.slice K u.nodes.length kc, .int .i64 u.root]) u := ⟨_, rfl, Kn⟩
          have hku : (l.map drawP)[i]? = some (drawP u) := by rw [List.getElem?_map, hgx]; rfl
          have htu := told_of hmt
          have hPS := pieceS hku htu (by omega)
          have hdu : drawB u = (drawP u, true) := by unfold drawB; rw [if_pos hmt]
          generalize drawP u = k at *
          obtain ⟨k', hk'⟩ : ∃ k', k' = k.shift (px, 0) := ⟨_, rfl⟩
          rw [← hpx, ← hk'] at hPS
          have hfit : k.Fit (px, 0) := (Drw.Ok.fit (K := 5000000) ⟨htu.in_, htu.w, htu.up, htu.dn, htu.n1, htu.n2, htu.five⟩ (by omega) (by show px.natAbs ≤ _; omega) (by show (0 : Int).natAbs ≤ _; decide))
          have pw := hPS.w; have ale := hPS.ale; have lle := hPS.lle; have px1 := hPS.x; have pa1 := hPS.a; have pl1 := hPS.l
          rw [← hS.D] at ale lle
          rw [← ha] at ale pa1
          rw [← hlb] at lle pl1
          rw [← hpx] at px1
          have tw := htu.w; have tw0 := htu.in_.w
          have k1 : decide ((D.ss.length : Int) < ((a + k'.ss.length : Nat) : Int)) = false := decide_eq_false (by omega)
          have k2 : decide ((D.ls.length : Int) < ((lb + k'.ls.length : Nat) : Int)) = false := decide_eq_false (by omega)
          repeat' (first | (refine W1 ?_) | (refine W2 (fun hc => ?_) (fun hc => ?_)) | (intro _))
          refine T.callR (f := 9) rfl rfl (fun w' hw' => by have h := draw_any _ u w' (St.old_tree hw' hru) hwt (Tab.st hT hw') (TabZ.st hZ hw'); rw [hdu] at h; exact h) (fun y _ => ?_)
          dsimp only
          repeat' (first | ((apply T.ev_; exact rfl; apply Ev.conv_if; exact rfl)) | ((apply T.ev_; exact rfl; apply Ev.complex_; exact rfl; exact rfl)) | (refine W1 ?_) | (refine W2 (fun hc => ?_) (fun hc => ?_)) | (intro _))
          have hcp : cPt (.complex .f64 (FloatKind.f64.nearest px) 0) (px, 0) := cPt_point (x := px) (y := 0) (by omega) (by decide)
          refine T.callR (f := 11) rfl rfl (fun w' hw' => by have h := shift_any k y.1 y.2 _ (px, 0) w' (RdD.of hw' (x := y) AtA) hcp hfit; rw [← hk'] at h; exact h) (fun y2 _ => ?_)
          repeat' (first | ((apply TL.pure_ (d := 102); exact rfl; exact rfl; apply Ev.slice_part (l := a) (q := k'.ss.length); exact rfl; exact rfl; exact rfl; (exact by omega); (exact by omega))) | ((apply TL.pure_ (d := 111); exact rfl; exact rfl; apply Ev.slice_part (l := lb) (q := k'.ls.length); exact rfl; exact rfl; exact rfl; (exact by omega); (exact by omega))) | (refine W1 ?_) | (refine W2 (fun hc => ?_) (fun hc => ?_)) | (intro _))
          rename_i b11 _ b13 _
          refine T.sub (M' := St w [blk b13 (rowD ((partA x.1.1 x.1.2 a 1, x.1.2 - a), (partA x.2.1 x.2.2 lb 2, x.2.2 - lb)) k') 39, hStrs (.slice y2.1.1 k'.ss.length y2.1.2) k'.ss, hLabs (.slice y2.2.1 k'.ls.length y2.2.2) k'.ls, blk b11 (rowD y2 k') 39, blk b5 (rowD x D) 39, hDr x D]) (fun w' hw => by
            have g0 : St w (blk b13 (rowD ((partA x.1.1 x.1.2 a 1, x.1.2 - a), (partA x.2.1 x.2.2 lb 2, x.2.2 - lb)) k') 39 :: hStrs (.slice y2.1.1 k'.ss.length y2.1.2) k'.ss :: hLabs (.slice y2.2.1 k'.ls.length y2.2.2) k'.ls :: blk b11 (rowD y2 k') 39 :: hDr y k :: blk b5 (rowD x D) 39 :: hDr x D :: []) w' := hw
            exact St.inc IncQ g0) ?_
          refine T.callR (f := 12) rfl rfl (fun w' hw' => told_any k' y2.1 y2.2 w' ⟨St.get_sl hw' AtR, St.get_sl hw' AtR⟩ ⟨by omega, by omega⟩ hPS.tss hPS.tls) (fun z _ => ?_)
          repeat' (first | (refine W1 ?_) | (refine W2 (fun hc => ?_) (fun hc => ?_)) | (intro _))
          refine T.callV (f := 13) rfl rfl (fun w' hw' => lsame_any k' (partA x.1.1 x.1.2 a 1, x.1.2 - a) (partA x.2.1 x.2.2 lb 2, x.2.2 - lb) z w' ⟨RSl.part (RdD.of hw' (x := x) (d := D) AtA).1 ale (by rw [hS.D, ha]; exact hPS.ss) rfl, RSl.part (RdD.of hw' (x := x) (d := D) AtA).2 lle (by rw [hS.D, hlb]; exact hPS.ls) rfl⟩ ⟨St.get_sl hw' AtR, St.get_sl hw' AtR⟩ (by omega) (by omega) hPS.tss hPS.tls) ?_
          repeat' (first | (refine W1 ?_) | (refine W2 (fun hc => ?_) (fun hc => ?_)) | (intro _))
          exact TX.round (i + 1, a + k'.ss.length + 1, lb + k'.ls.length, px + k'.w + 2) ⟨hlt, pa1.symm, pl1.symm, px1.symm⟩ (show l.length - (i + 1) < l.length - i by omega) SubA (fun w' hw => by
            have g0 : St w (_ :: _ :: _ :: _ :: _ :: _ :: _ :: blk b5 (rowD x D) 39 :: hDr x D :: []) w' := hw
            exact St.inc IncQ g0)
        · have hck : decide ((i : Int) < (l.length : Int)) = false := decide_eq_false (by omega)
          obtain rfl : i = l.length := by omega
          have he := pieces_end (ks := l.map drawP) (by rw [List.length_map]; exact hS.n0)
          rw [List.length_map, ← hpx, ← ha, ← hS.D] at he
          obtain ⟨he1, he2⟩ := he
          have k1 : decide ((a : Int) = ((D.ss.length + 1 : Nat) : Int)) = true := decide_eq_true (by omega)
          have k2 : decide (px = D.w + 2) = true := decide_eq_true he1
          repeat' (first | (refine W1 ?_) | (refine W2 (fun hc => ?_) (fun hc => ?_)) | (intro _))
          exact TX.ret_tmp rfl rfl (fun w' hw => RetV.eq hw (by rw [k2]))
end Go.Proofs.YtalnmednhhimhaaGreatDoor
