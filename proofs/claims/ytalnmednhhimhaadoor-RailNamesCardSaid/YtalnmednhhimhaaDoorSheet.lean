/-
  rail.Sheet: what it draws of rows, in plain Lean; and walked.
-/
import Derived.Test.YtalnmednhhimhaaDoorRailD
set_option linter.all false
namespace Go.Bonsai
open Go Go.Sl Go.RowKit Go.Fl
abbrev Row := ByteArray × Tre
/-- a row's cells -/
def RRow (S : Nat → Prop) (w : World) (cs : List Value) (r : Row) : Prop := ∃ A c, cs = [.string r.1, .slice A r.2.nodes.length c, .int .i64 r.2.root] ∧ RNodes S w (.slice A r.2.nodes.length c) r.2.nodes
theorem RRow.rd : Rd RRow := ⟨fun h ⟨A, c, h1, h2⟩ => ⟨A, c, h1, h2.mono h⟩, fun h ⟨A, c, h1, h2⟩ => ⟨A, c, h1, h2.loc h⟩⟩
/-- a further row: its name, and its drawing below -/
def shStep (s : Drw × Int) (nm : ByteArray) (k : Drw) : Drw × Int :=
  (⟨max s.1.w k.w, 0, s.2 + 1 + k.up + k.dn, s.1.ss ++ mvS (0, s.2 + 1 + k.up) k.ss, (s.1.ls ++ [((0, s.2), nm)]) ++ mvL (0, s.2 + 1 + k.up) k.ls⟩, s.2 + 1 + k.up + k.dn + 2)
def shF (l : List Row) : Drw × Int := l.foldl (fun s r => shStep s r.1 (drawP r.2)) (.zero, 0)
def sheetB (l : List Row) : Drw × Bool := if l.length = 0 ∨ 64 < l.length then (.zero, false) else if ∀ r ∈ l, mayP r.2 = true then ((shF l).1, true) else (.zero, false)
theorem shF_step {l : List Row} {i : Nat} {r : Row} (h : l[i]? = some r) : shF (l.take (i + 1)) = shStep (shF (l.take i)) r.1 (drawP r.2) := by
  have hlt := (List.getElem?_eq_some_iff.1 h).1
  have e : l.take (i + 1) = l.take i ++ [r] := by
    rw [List.take_succ_eq_append_getElem hlt]
    rw [List.getElem?_eq_getElem hlt] at h
    cases h
    rfl
  rw [e]
  unfold shF
  rw [List.foldl_append]
  rfl
theorem sheetB_yes {l : List Row} {S : Drw} (h : sheetB l = (S, true)) : (0 < l.length ∧ l.length ≤ 64) ∧ (∀ r ∈ l, mayP r.2 = true) ∧ S = (shF l).1 := by
  unfold sheetB at h
  split at h
  · cases h
  · split at h
    · rename_i h1 h2
      cases h
      exact ⟨by omega, h2, rfl⟩
    · cases h
/-- so much after i rows -/
structure ShOk (i : Nat) (s : Drw × Int) : Prop where
  y0 : 0 ≤ s.2
  y : s.2 ≤ 10000003 * i
  w0 : 0 ≤ s.1.w
  w : s.1.w ≤ 5000000
  up : s.1.up = 0
  dn0 : 0 ≤ s.1.dn
  dn : s.1.dn ≤ 10000003 * i
  dy : 0 < i → s.2 = s.1.dn + 2
  n1 : s.1.ss.length ≤ 5000000 * i
  n2 : s.1.ls.length ≤ 5000001 * i
theorem ShOk.zero : ShOk 0 (.zero, 0) := ⟨by decide, by decide, by decide, by decide, rfl, by decide, by decide, fun h => by omega, by decide, by decide⟩
theorem ShOk.step {i : Nat} {s : Drw × Int} {nm : ByteArray} {k : Drw} (h : ShOk i s) (hk : TolD k) : ShOk (i + 1) (shStep s nm k) := by
  have a1 := h.y0; have a2 := h.y; have a3 := h.w0; have a4 := h.w; have a5 := h.dn0; have a6 := h.dn; have a7 := h.n1; have a8 := h.n2
  have b1 := hk.w; have b2 := hk.up; have b3 := hk.dn; have b4 := hk.n1; have b5 := hk.n2; have b6 := hk.in_.w; have b7 := hk.in_.up; have b8 := hk.in_.dn
  unfold shStep
  refine ⟨?_, ?_, ?_, ?_, rfl, ?_, ?_, fun _ => rfl, ?_, ?_⟩
  all_goals
    simp [mvS, mvL]
    try omega
theorem shOk {l : List Row} (hm : ∀ r ∈ l, mayP r.2 = true) : ∀ i : Nat, i ≤ l.length → ShOk i (shF (l.take i))
  | 0, _ => ShOk.zero
  | i + 1, h => by
    have hlt : i < l.length := by omega
    rw [shF_step (List.getElem?_eq_getElem hlt)]
    exact (shOk hm i (by omega)).step (told_of (hm _ (List.getElem_mem hlt)))
end Go.Bonsai
namespace Go.Proofs.YtalnmednhhimhaaDoor
open Go Go.Sl Go.RowKit Go.Bonsai Go.Fl
set_option linter.unusedVariables false
set_option linter.unusedSimpArgs false
/-- the worked drawing's pieces, its figures told -/
abbrev shL (b7 : Nat) (b2 b1 : HP) (d : Drw) (x : DX) : List HP := [dBlk b7 (.int .i64 d.w) (.int .i64 0) (.int .i64 d.dn) x.1.1 x.2.1 d.ss.length d.ls.length, sOwn x.1.1 d.ss.length x.1.2, hSt x.1.2 d.ss, lOwn x.2.1 d.ls.length x.2.2, hLb x.2.2 d.ls, b2, b1]
set_option maxHeartbeats 4000000 in
set_option maxRecDepth 20000 in
theorem sheet_any (l : List Row) (A : Option Addr) (c : Nat) (w : World) (hr : RSl 3 RRow (Old w) w (.slice A l.length c) l) (hwl : ∀ r ∈ l, r.2.wf) (hT : Tab w) (hZ : TabZ w) : Calls Tryd.prog 18 #[.agg #[.slice A l.length c]] w (RetDB w (sheetB l)) := by
  obtain ⟨A', c', rows0, e, hA, hrows, hc⟩ := hr
  injection e with e1 _ e3
  subst e1; subst e3
  refine TC.calls (l := [.agg #[.slice A l.length c]]) Tryd.func18 rfl Tryd.ntmps18 rfl (St.start w) ?_
  by_cases h0 : l.length = 0
  · have k0 : decide ((l.length : Int) = 0) = true := decide_eq_true (by omega)
    have e : sheetB l = (.zero, false) := by unfold sheetB; rw [if_pos (.inl h0)]
    rw [e]
    repeat' (first | (refine W1 ?_) | (refine W2 (fun hc => ?_) (fun hc => ?_)) | (intro _))
    rename_i b1 b2
    refine TX.ret_gen (rs := [.cell 2 30, .tmp 3]) (vs := [dVal (none, 0) (none, 0) .zero, .bool false]) rfl (.cell rfl (blk_res (cs := [.int .i64 0, .int .i64 0, .int .i64 0, .slice none 0 0, .slice none 0 0]) AtA rfl) (.tmp rfl .nil)) (fun w' hw => ?_)
    have h1 := St.push (H := hDr noX .zero) hw Chg.refl RDr.zero
    exact Ret.mk noX trivial (.cons .here .nil) h1
  · have k0 : decide ((l.length : Int) = 0) = false := decide_eq_false (by omega)
    by_cases h64 : 64 < l.length
    · have k1 : decide (64 < (l.length : Int)) = true := decide_eq_true (by omega)
      have e : sheetB l = (.zero, false) := by unfold sheetB; rw [if_pos (.inr h64)]
      rw [e]
      repeat' (first | (refine W1 ?_) | (refine W2 (fun hc => ?_) (fun hc => ?_)) | (intro _))
      rename_i b1 b2
      refine TX.ret_gen (rs := [.cell 2 30, .tmp 3]) (vs := [dVal (none, 0) (none, 0) .zero, .bool false]) rfl (.cell rfl (blk_res (cs := [.int .i64 0, .int .i64 0, .int .i64 0, .slice none 0 0, .slice none 0 0]) AtA rfl) (.tmp rfl .nil)) (fun w' hw => ?_)
      have h1 := St.push (H := hDr noX .zero) hw Chg.refl RDr.zero
      exact Ret.mk noX trivial (.cons .here .nil) h1
    · have k1 : decide (64 < (l.length : Int)) = false := decide_eq_false (by omega)
      repeat' (first | (refine W1 ?_) | (refine W2 (fun hc => ?_) (fun hc => ?_)) | (intro _))
      rename_i b1 b2 b4
      refine TC.loopA (ι := Nat × DX) (0, (((none, 0), []), ((none, 0), []))) (fun k r => (25, .int .i64 k.1) :: (5, .int .i64 (shF (l.take k.1)).2) :: r)
        (fun k => St w (shL b4 (blk b2 [.int .i64 0, .int .i64 0, .int .i64 0, .slice none 0 0, .slice none 0 0] 30) (blk b1 [.slice A l.length c] 65) (shF (l.take k.1)).1 k.2))
        (fun k => k.1 ≤ l.length ∧ (∀ r ∈ l.take k.1, mayP r.2 = true) ∧ ShOk k.1 (shF (l.take k.1))) (fun k => l.length - k.1) KpA SubA (fun w' hw => ?_) ⟨Nat.zero_le _, fun r hr => (by cases hr), ShOk.zero⟩ ?_
      · have g0 : St w (dBlk b4 (.int .i64 0) (.int .i64 0) (.int .i64 0) (none, 0) (none, 0) 0 0 :: blk b2 [.int .i64 0, .int .i64 0, .int .i64 0, .slice none 0 0, .slice none 0 0] 30 :: blk b1 [.slice A l.length c] 65 :: []) w' := hw
        have g1 := St.dnil (St.lnil g0)
        exact St.inc (L' := [dBlk b4 (.int .i64 0) (.int .i64 0) (.int .i64 0) (none, 0) (none, 0) 0 0, sOwn (none, 0) 0 [], hSt [] [], lOwn (none, 0) 0 [], hLb [] [], blk b2 [.int .i64 0, .int .i64 0, .int .i64 0, .slice none 0 0, .slice none 0 0] 30, blk b1 [.slice A l.length c] 65]) IncQ g1
      rintro ⟨i, x⟩ ⟨hi, hmi, hok⟩
      simp only at hi hmi hok ⊢
      by_cases hlt : i < l.length
      · have hck : decide ((i : Int) < (l.length : Int)) = true := decide_eq_true (by omega)
        have hgx : l[i]? = some l[i] := List.getElem?_eq_getElem hlt
        have hmem := List.getElem_mem hlt
        have hwt := hwl _ hmem
        have hst := shF_step hgx
        have htk : l.take (i + 1) = l.take i ++ [l[i]] := List.take_succ_eq_append_getElem hlt
        obtain ⟨cs, hcs, K, kc, rfl, Kn⟩ := hrows.get hgx
        generalize l[i] = r at *
        obtain ⟨nm, t⟩ := r
        simp only at Kn hcs hwt hst
        have hA' : A = some (A.getD default) := hA.some_ (by omega)
        have hrt : RTree (Old w) w (.agg #[.slice K t.nodes.length kc, .int .i64 t.root]) t := ⟨_, rfl, Kn⟩
        obtain ⟨q, hq⟩ : ∃ q, drawB t = q := ⟨_, rfl⟩
        obtain ⟨k, ok⟩ := q
        repeat' (first | (refine W1 ?_) | (refine W2 (fun hc => ?_) (fun hc => ?_)) | (intro _))
        refine T.callR (f := 8) rfl rfl (fun w' hw' => by have h := draw_any _ t w' (St.old_tree hw' hrt) hwt (Tab.st hT hw') (TabZ.st hZ hw'); rw [hq] at h; exact h) (fun y _ => ?_)
        dsimp only
        cases ok with
        | false =>
          have hno := drawB_no hq
          have e : sheetB l = (.zero, false) := by
            unfold sheetB
            rw [if_neg (by omega), if_neg (fun h => by rw [h _ hmem] at hno; cases hno)]
          rw [e]
          repeat' (first | (refine W1 ?_) | (refine W2 (fun hc => ?_) (fun hc => ?_)) | (intro _))
          refine TX.ret_gen (rs := [.cell 2 30, .tmp 3]) (vs := [dVal (none, 0) (none, 0) .zero, .bool false]) rfl (.cell rfl (blk_res (cs := [.int .i64 0, .int .i64 0, .int .i64 0, .slice none 0 0, .slice none 0 0]) AtA rfl) (.tmp rfl .nil)) (fun w' hw => ?_)
          have h1 := St.push (H := hDr noX .zero) hw Chg.refl RDr.zero
          exact Ret.mk noX trivial (.cons .here .nil) h1
        | true =>
          obtain ⟨hk, hmk, hkd⟩ := drawB_yes hq
          rw [← hkd] at hst
          generalize shF (l.take i) = s at *
          obtain ⟨d, yy⟩ := s
          have kw := hk.w; have ku := hk.up; have kd := hk.dn; have kw0 := hk.in_.w; have ku0 := hk.in_.up; have kd0 := hk.in_.dn; have ks := hk.n1; have kl := hk.n2
          have oy0 := hok.y0; have oy := hok.y; have ow0 := hok.w0; have ow := hok.w; have od0 := hok.dn0; have od := hok.dn; have on1 := hok.n1; have on2 := hok.n2
          simp only at oy0 oy ow0 ow od0 od on1 on2
          have i64 : i ≤ 63 := by omega
          repeat' (first | ((apply TL.kcallV (d := 41) (f := 26); exact rfl; (intro w' _; exact point_any _ _ w' (by decide) (fit53 (by omega))); exact rfl; exact rfl; exact DropA)) | (refine W1 ?_) | (refine W2 (fun hc => ?_) (fun hc => ?_)) | (intro _))
          rename_i b7 b8 B
          refine TL.loud rfl rfl (Ac.append (rows := x.2.2) (news := [[.complex .f64 (FloatKind.f64.nearest 0) (FloatKind.f64.nearest yy), .string nm]]) rfl rfl DelA (fun w hw => St.own_arr hw AtA) (fun _ _ r hr => by simp at hr; subst hr; rfl) (by unfold maxLen; simp only; omega) (by simp only; omega)) (fun p3 => ?_)
          obtain ⟨A3, c3⟩ := p3
          dsimp only
          repeat' (first | ((apply TX.tree)) | ((apply TT.fin)) | ((refine TC.holdR 13 ?_)) | (refine W1 ?_) | (refine W2 (fun hc => ?_) (fun hc => ?_)) | (intro _))
          refine ⟨?_⟩
          have hc0 : cPt (.complex .f64 (FloatKind.f64.nearest 0) (FloatKind.f64.nearest yy)) (0, yy) := cPt_point (x := 0) (y := yy) (by decide) (fit53 (by omega))
          generalize FloatKind.f64.nearest yy = fy at *
          generalize FloatKind.f64.nearest 0 = f0 at *
          have el : d.ls.length + 1 = (d.ls ++ [((0, yy), nm)]).length := by simp
          refine TC.sub (M' := St w (dBlk b4 (.int .i64 d.w) (.int .i64 0) (.int .i64 d.dn) x.1.1 (A3, c3) d.ss.length (d.ls ++ [((0, yy), nm)]).length :: sOwn x.1.1 d.ss.length x.1.2 :: hSt x.1.2 d.ss :: lOwn (A3, c3) (d.ls ++ [((0, yy), nm)]).length (x.2.2 ++ [[.complex .f64 f0 fy, .string nm]]) :: hLb (x.2.2 ++ [[.complex .f64 f0 fy, .string nm]]) (d.ls ++ [((0, yy), nm)]) :: blk b8 (rowD y k) 30 :: hDr y k :: blk b2 [.int .i64 0, .int .i64 0, .int .i64 0, .slice none 0 0, .slice none 0 0] 30 :: blk b1 [.slice A l.length c] 65 :: [])) (fun w' hw => ?_) ?_
          · rw [← el]
            have g0 : St w (lOwn (A3, c3) (d.ls.length + 1) (x.2.2 ++ [[.complex .f64 f0 fy, .string nm]]) :: _ :: blk b8 (rowD y k) 30 :: hDr y k :: _ :: dBlk b4 (.int .i64 d.w) (.int .i64 0) (.int .i64 d.dn) x.1.1 (A3, c3) d.ss.length (d.ls.length + 1) :: sOwn x.1.1 d.ss.length x.1.2 :: hSt x.1.2 d.ss :: hLb x.2.2 d.ls :: blk b2 [.int .i64 0, .int .i64 0, .int .i64 0, .slice none 0 0, .slice none 0 0] 30 :: blk b1 [.slice A l.length c] 65 :: []) w' := hw
            have g1 := St.push (H := hLb [[.complex .f64 f0 fy, .string nm]] [((0, yy), nm)]) g0 Chg.refl (All2.more ⟨_, rfl, hc0⟩ .nil)
            have g2 := St.del (H := hLb x.2.2 d.ls) DelA g1
            have g3 := St.join (K := hLb (x.2.2 ++ [[.complex .f64 f0 fy, .string nm]]) (d.ls ++ [((0, yy), nm)])) (fun S S' w h h' => hAll_app h h') g2
            exact St.inc IncQ g3
          generalize hLS : d.ls ++ [((0, yy), nm)] = LS at *
          generalize x.2.2 ++ [[.complex .f64 f0 fy, .string nm]] = LR at *
          have k53 : (yy + 1 + k.up).natAbs < 2 ^ 53 := fit53 (by omega)
          apply TC.seq
          refine TC.lexT [(3, .loud)] (.seg [0, 1, 2, 3] .fin) mixed (by kernel_rfl) (TT.seg rfl ?_)
          repeat' (first | ((apply TL.kcallV (d := 55) (f := 26); exact rfl; (intro w' _; exact point_any _ _ w' (by decide) k53); exact rfl; exact rfl; exact DropA)) | (refine W1 ?_) | (refine W2 (fun hc => ?_) (fun hc => ?_)) | (intro _))
          have lLS : LS.length ≤ 1000000000 := by omega
          refine TL.lcall rfl rfl (Cl.callM (f := 27) (val := fun _ : DX => .tuple #[]) rfl (fun w' hw' => put_any (L0 := [blk b8 (rowD y k) 30, hDr y k, blk b2 [.int .i64 0, .int .i64 0, .int .i64 0, .slice none 0 0, .slice none 0 0] 30, blk b1 [.slice A l.length c] 65]) b4 _ _ _ x.1.1 (A3, c3) x.1.2 LR d.ss LS k y.1 y.2 _ (0, yy + 1 + k.up) w' (by omega) lLS (fun w'' h => RdD.of h (x := y) AtA) (cPt_point (x := 0) (y := yy + 1 + k.up) (by decide) k53) (Drw.Ok.fit (K := 5000000) ⟨hk.in_, kw, ku, kd, ks, kl, hk.five⟩ (by omega) (by show (0 : Int).natAbs ≤ _; decide) (by show (yy + 1 + k.up).natAbs ≤ _; omega)) hw')) (fun u => ?_)
          repeat' (first | ((apply TX.tree)) | ((apply TT.fin)) | (refine W1 ?_) | (refine W2 (fun hc => ?_) (fun hc => ?_)) | (intro _))
          have hmi' : ∀ r ∈ l.take (i + 1), mayP r.2 = true := by
            intro r hr
            rw [htk] at hr
            rcases List.mem_append.1 hr with h | h
            · exact hmi r h
            · rw [List.mem_singleton] at h
              rw [h]
              exact hmk
          have hok' : ShOk (i + 1) (shF (l.take (i + 1))) := by rw [hst]; exact hok.step hk
          refine TX.round (i + 1, u) ⟨hlt, hmi', hok'⟩ (show l.length - (i + 1) < l.length - i by omega) ?_ (fun w' hw => ?_)
          · dsimp only
            rw [hst]
            exact SubA
          · dsimp only
            rw [hst]
            have g0 : St w (dBlk b4 (.int .i64 (max d.w k.w)) (.int .i64 0) (.int .i64 (yy + 1 + k.up + k.dn)) u.1.1 u.2.1 (d.ss ++ mvS (0, yy + 1 + k.up) k.ss).length (LS ++ mvL (0, yy + 1 + k.up) k.ls).length :: sOwn u.1.1 (d.ss ++ mvS (0, yy + 1 + k.up) k.ss).length u.1.2 :: hSt u.1.2 (d.ss ++ mvS (0, yy + 1 + k.up) k.ss) :: lOwn u.2.1 (LS ++ mvL (0, yy + 1 + k.up) k.ls).length u.2.2 :: hLb u.2.2 (LS ++ mvL (0, yy + 1 + k.up) k.ls) :: _ :: _ :: blk b2 [.int .i64 0, .int .i64 0, .int .i64 0, .slice none 0 0, .slice none 0 0] 30 :: blk b1 [.slice A l.length c] 65 :: []) w' := hw
            subst hLS
            exact St.inc IncQ g0
      · have hck : decide ((i : Int) < (l.length : Int)) = false := decide_eq_false (by omega)
        obtain rfl : i = l.length := by omega
        rw [List.take_of_length_le (Nat.le_refl _)] at hmi hok ⊢
        have e : sheetB l = ((shF l).1, true) := by
          unfold sheetB
          rw [if_neg (by omega), if_pos hmi]
        rw [e]
        generalize shF l = s at *
        obtain ⟨⟨dw, dup, ddn, dss, dls⟩, yy⟩ := s
        obtain rfl : dup = 0 := hok.up
        repeat' (first | (refine W1 ?_) | (refine W2 (fun hc => ?_) (fun hc => ?_)) | (intro _))
        refine TX.ret_gen (rs := [.cell 2 30, .tmp 3]) (vs := [.agg #[.int .i64 dw, .int .i64 0, .int .i64 ddn, .slice x.1.1.1 dss.length x.1.1.2, .slice x.2.1.1 dls.length x.2.1.2], .bool true]) rfl (.cell rfl (blk_res (cs := [.int .i64 dw, .int .i64 0, .int .i64 ddn, .slice x.1.1.1 dss.length x.1.1.2, .slice x.2.1.1 dls.length x.2.1.2]) AtA rfl) (.tmp rfl .nil)) (fun w' hw => ?_)
        have g0 : St w (sOwn x.1.1 dss.length x.1.2 :: hSt x.1.2 dss :: lOwn x.2.1 dls.length x.2.2 :: hLb x.2.2 dls :: []) w' := St.inc IncQ hw
        have g1 := St.join (K := hStrs (.slice x.1.1.1 dss.length x.1.1.2) dss) (fun S S' w h h' => sl_own rfl h h') g0
        have g2 : St w (lOwn x.2.1 dls.length x.2.2 :: hLb x.2.2 dls :: hStrs (.slice x.1.1.1 dss.length x.1.1.2) dss :: []) w' := St.inc IncQ g1
        have g3 := St.join (K := hLabs (.slice x.2.1.1 dls.length x.2.1.2) dls) (fun S S' w h h' => sl_own rfl h h') g2
        have g4 : St w (hStrs (.slice x.1.1.1 dss.length x.1.1.2) dss :: hLabs (.slice x.2.1.1 dls.length x.2.1.2) dls :: []) w' := St.inc IncQ g3
        have g5 := St.join (K := hDr (x.1.1, x.2.1) ⟨dw, 0, ddn, dss, dls⟩) (fun S S' w h h' => hDr_join h h') g4
        have g6 := Ret.mk (val := fun x : PP => .tuple #[dVal x.1 x.2 ⟨dw, 0, ddn, dss, dls⟩, .bool true]) (HL := fun x => [hDr x ⟨dw, 0, ddn, dss, dls⟩]) (p := fun _ => True) ((x.1.1, x.2.1) : PP) trivial (.cons .here .nil) g5
        exact g6
end Go.Proofs.YtalnmednhhimhaaDoor
