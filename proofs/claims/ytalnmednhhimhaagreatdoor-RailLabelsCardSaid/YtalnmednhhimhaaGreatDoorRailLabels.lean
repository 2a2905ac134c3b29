/-
  The law RailLabels, walked: it answers true.
-/
import Derived.Test.YtalnmednhhimhaaGreatDoorLabelsP
import Derived.Test.YtalnmednhhimhaaGreatDoorBodies
import Derived.Test.YtalnmednhhimhaaGreatDoorWalkT
import Derived.Test.YtalnmednhhimhaaGreatDoorOpenG
set_option linter.all false
namespace Go.Bonsai
open Go Go.Sl Go.RowKit Go.Fl
/-- a label's text, read -/
theorem Ev.labT {P : Program} {n : FD} {s : Sg} {M : World → Prop} {ty : TypeId} {op : Operand} {t q i : Nat} {x : PP} {D : Drw} {tx : ByteArray} [L1 P t] (hx : ev s op = some (.pointer (some ((x.2.1.getD default).add q)))) (hq : q = i * 2 + 1) (hM : ∀ w, M w → RSl 2 RLab (Old w) w (.slice x.2.1 D.ls.length x.2.2) D.ls) (hl : D.tx[i]? = some tx) : Ev P n s M (.load t op) ty (.string tx) := by
  refine Ev.load1 hx (fun w hw => ?_)
  obtain ⟨A, c, rows, e, h1, h2, _⟩ := hM w hw
  injection e with e1 _ _
  subst e1
  unfold Drw.tx at hl
  rw [List.getElem?_map] at hl
  cases hd : D.ls[i]? with
  | none => rw [hd] at hl; cases hl
  | some lb =>
    rw [hd] at hl
    simp only [Option.map_some, Option.some.injEq] at hl
    obtain ⟨cs, hcs, v, rfl, _⟩ := h2.get hd
    rw [hq]
    exact h1.cell (v := .string tx) hcs (by rw [← hl]; rfl)
end Go.Bonsai
namespace Go.Proofs.YtalnmednhhimhaaGreatDoor
open Go Go.Sl Go.RowKit Go.Bonsai Go.Fl
theorem drawB_zero {t : Tre} {D : Drw} (h : drawB t = (D, false)) : D = .zero := by
  unfold drawB at h
  split at h
  · cases h
  · cases h; rfl
set_option linter.unusedVariables false
set_option linter.unusedSimpArgs false
set_option maxHeartbeats 8000000 in
set_option maxRecDepth 100000 in
theorem railLabels_go (v : Value) (t : Tre) (l : List Row) (B : Option Addr) (bc : Nat) (w : World) (hr : RTree (Old w) w v t) (ht : t.wf) (hg : RSl 3 RRow (Old w) w (.slice B l.length bc) l) (hl : l.length ≤ 4398046511104) (hwl : ∀ r ∈ l, r.2.wf) (hT : Tab w) (hZ : TabZ w) : Calls Tryz.prog 5 #[v, .agg #[.slice B l.length bc]] w (RetV w (.bool true)) := by
  have hr0 := hr
  obtain ⟨nv, rfl, hn⟩ := hr
  have hn0 := hn
  obtain ⟨A, cc, rows0, rfl, hA, hrows, hcc⟩ := hn
  have hg0 := hg
  obtain ⟨B', bc', brows, e, hB, hbr, hbc⟩ := hg
  injection e with e1 _ e3
  subst e1; subst e3
  refine TC.calls (l := [.agg #[.slice A t.nodes.length cc, .int .i64 t.root], .agg #[.slice B l.length bc]]) Tryz.func5 rfl Tryz.ntmps5 rfl (St.start w) ?_
  repeat' (first | (refine W1 ?_) | (refine W2 (fun hc => ?_) (fun hc => ?_)) | (intro _))
  rename_i b2 b3 BL
  refine T.callR (f := 6) rfl rfl (fun w' hw' => large6_any _ [t] w' (RTrees.of rfl hw' AtA (All2.more (RTree.c (St.old_tree hw' hr0)) .nil)) (by show 1 ≤ _; omega) (fun x hx => by rw [List.mem_singleton] at hx; subst hx; exact ht)) (fun lg _ => ?_)
  cases lg with
  | true =>
    repeat' (first | ((apply T.callV (f := 7); exact rfl; exact rfl; (intro w' hw'; exact awake6_any w' (Tab.st hT hw') (TabZ.st hZ hw')))) | (refine W1 ?_) | (refine W2 (fun hc => ?_) (fun hc => ?_)) | (intro _))
    exact TX.ret_tmp rfl rfl (fun w' hw => RetV.eq hw rfl)
  | false =>
    repeat' (first | (refine W1 ?_) | (refine W2 (fun hc => ?_) (fun hc => ?_)) | (intro _))
    refine T.callR (f := 14) rfl rfl (fun w' hw' => bodies_any l B bc brows w' (St.old_arr hw' hB) (hbr.imp fun _ _ => St.old_rd RRow.rd hw')) (fun bp _ => ?_)
    repeat' (first | (refine W1 ?_) | (refine W2 (fun hc => ?_) (fun hc => ?_)) | (intro _))
    refine T.callR (f := 6) rfl rfl (fun w' hw' => large6_any _ (bodT l) w' ⟨_, _, bodR brows, rfl, St.own_arr hw' AtA, bod_all (hbr.imp fun _ _ => St.old_rd RRow.rd hw'), own.cap (hw'.at_all (H := own 27 2 bp.1 (bodT l).length bp.2 (bodR brows)) AtA)⟩ (by rw [bodT_len]; omega) (bodT_wf hwl)) (fun lg2 _ => ?_)
    cases lg2 with
    | true =>
      repeat' (first | ((apply T.callV (f := 7); exact rfl; exact rfl; (intro w' hw'; exact awake6_any w' (Tab.st hT hw') (TabZ.st hZ hw')))) | (refine W1 ?_) | (refine W2 (fun hc => ?_) (fun hc => ?_)) | (intro _))
      exact TX.ret_tmp rfl rfl (fun w' hw => RetV.eq hw rfl)
    | false =>
      repeat' (first | (refine W1 ?_) | (refine W2 (fun hc => ?_) (fun hc => ?_)) | (intro _))
      refine T.callR (f := 15) rfl rfl (fun w' hw' => names_any l B bc brows w' hl (St.old_arr hw' hB) (hbr.imp fun _ _ => St.old_rd RRow.rd hw')) (fun nn _ => ?_)
      by_cases hnn : 5000 ≤ nn
      · have kn : decide (5000 ≤ nn) = true := decide_eq_true hnn
        repeat' (first | ((apply T.callV (f := 7); exact rfl; exact rfl; (intro w' hw'; exact awake6_any w' (Tab.st hT hw') (TabZ.st hZ hw')))) | (refine W1 ?_) | (refine W2 (fun hc => ?_) (fun hc => ?_)) | (intro _))
        exact TX.ret_tmp rfl rfl (fun w' hw => RetV.eq hw rfl)
      · have kn : decide (5000 ≤ nn) = false := decide_eq_false hnn
        repeat' (first | ((apply T.callV (f := 7); exact rfl; exact rfl; (intro w' hw'; exact awake6_any w' (Tab.st hT hw') (TabZ.st hZ hw')))) | (refine W1 ?_) | (refine W2 (fun hc => ?_) (fun hc => ?_)) | (intro _))
        obtain ⟨r, hrr⟩ : ∃ r, drawB t = r := ⟨_, rfl⟩
        obtain ⟨D, ok⟩ := r
        refine T.callR (f := 9) rfl rfl (fun w' hw' => by have h := draw_any _ t w' (St.old_tree hw' hr0) ht (Tab.st hT hw') (TabZ.st hZ hw'); rw [hrr] at h; exact h) (fun x _ => ?_)
        dsimp only
        repeat' (first | (refine W1 ?_) | (refine W2 (fun hc => ?_) (fun hc => ?_)) | (intro _))
        rename_i b5
        refine T.sub (M' := St w [blk b5 (rowD x D) 39, hDr x D, blk b3 [.slice B l.length bc] 56, blk b2 [.slice A t.nodes.length cc, .int .i64 t.root] 27]) (fun w' hw => by
          have g0 : St w (blk b5 (rowD x D) 39 :: hDr x D :: _ :: _ :: blk b3 [.slice B l.length bc] 56 :: blk b2 [.slice A t.nodes.length cc, .int .i64 t.root] 27 :: []) w' := hw
          exact St.inc IncQ g0) ?_
        refine T.callR (f := 22) rfl rfl (fun w' hw' => walk_any _ t w' (St.old_tree hw' hr0) ht (Tab.st hT hw')) (fun rp _ => ?_)
        repeat' (first | ((refine TC.hold 6 ?_)) | (refine W1 ?_) | (refine W2 (fun hc => ?_) (fun hc => ?_)) | (intro _))
        refine ⟨TC.cutA (ι := Unit) (fun _ r => (8, .int .i64 (D.ls.length : Nat)) :: r) (fun _ => St w [blk b5 (rowD x D) 39, hDr x D, blk b3 [.slice B l.length bc] 56, blk b2 [.slice A t.nodes.length cc, .int .i64 t.root] 27]) KpA ?_ (fun _ => ?_)⟩
        · cases ok with
          | false =>
            obtain rfl := drawB_zero hrr
            repeat' (first | (refine W1 ?_) | (refine W2 (fun hc => ?_) (fun hc => ?_)) | (intro _))
            refine TC.loopA (ι := Unit) () (fun _ r => (9, .int .i64 0) :: (8, .int .i64 0) :: r) (fun _ => St w [own 3 1 rp.1 (walkP t).length rp.2 (irows (walkP t)), blk b5 (rowD x .zero) 39, hDr x .zero, blk b3 [.slice B l.length bc] 56, blk b2 [.slice A t.nodes.length cc, .int .i64 t.root] 27]) (fun _ => True) (fun _ => 0) KpA SubA (fun w' hw => hw) trivial ?_
            intro _ _
            by_cases h0 : 0 < (walkP t).length
            · have hck : decide (0 < ((walkP t).length : Int)) = true := decide_eq_true (by omega)
              repeat' (first | (refine W1 ?_) | (refine W2 (fun hc => ?_) (fun hc => ?_)) | (intro _))
              exact TX.join () SubA (fun w' hw => St.inc IncQ hw)
            · have hck : decide (0 < ((walkP t).length : Int)) = false := decide_eq_false (by omega)
              repeat' (first | (refine W1 ?_) | (refine W2 (fun hc => ?_) (fun hc => ?_)) | (intro _))
              exact TX.join () SubA (fun w' hw => St.inc IncQ hw)
          | true =>
            obtain ⟨hD, hm, rfl⟩ := drawB_yes hrr
            have n2 := hD.n2
            have hwl0 : (walkP t).length ≤ 1024 := by
              obtain ⟨hR, hN⟩ := mayP_right hm
              have e : walkP t = rowP t := by
                unfold walkP
                unfold mayP at hm
                simp only [Bool.and_eq_true] at hm
                rw [if_pos hm.1.2]
              rw [e, (row_ok hR).len]
              exact hN
            repeat' (first | (refine W1 ?_) | (refine W2 (fun hc => ?_) (fun hc => ?_)) | (intro _))
            refine TC.fact (φ := (0 < (walkP t).length → rp.1 = some (rp.1.getD default)) ∧ (0 < (drawP t).ls.length → x.2.1 = some (x.2.1.getD default))) (fun w' hw => ⟨fun h => (St.own_arr (e := 3) (sz := 1) (n := (walkP t).length) (c := rp.2) (rows := irows (walkP t)) hw AtA).some_ h, fun h => by
              obtain ⟨_, ⟨A', c', rows', e, h1, _, _⟩⟩ := RdD.of hw (x := x) (d := drawP t) AtA
              injection e with e1 _ _
              subst e1
              exact h1.some_ h⟩) ?_
            rintro ⟨hrp, hx2⟩
            refine TC.loopA (ι := Nat × Nat) (0, 0) (fun k r => (9, .int .i64 k.1) :: (8, .int .i64 k.2) :: r) (fun _ => St w [own 3 1 rp.1 (walkP t).length rp.2 (irows (walkP t)), blk b5 (rowD x (drawP t)) 39, hDr x (drawP t), blk b3 [.slice B l.length bc] 56, blk b2 [.slice A t.nodes.length cc, .int .i64 t.root] 27]) (fun k => k.1 ≤ (walkP t).length ∧ k.2 = labC t k.1) (fun k => (walkP t).length - k.1) KpA SubA (fun w' hw => hw) ⟨Nat.zero_le _, rfl⟩ ?_
            rintro ⟨i, a⟩ ⟨hi, ha⟩
            simp only at hi ha ⊢
            by_cases hlt : i < (walkP t).length
            · have hck : decide ((i : Int) < ((walkP t).length : Int)) = true := decide_eq_true (by omega)
              have hxi : (walkP t)[i]? = some (walkP t)[i] := List.getElem?_eq_getElem hlt
              generalize (walkP t)[i] = xi at *
              obtain ⟨j, n, rfl, hn, hfd, hna⟩ := lab_at hm hxi
              have hjl := (List.getElem?_eq_some_iff.1 hn).1
              obtain ⟨cs, hcs, kv, rfl, K2, kc2, rfl, hK2, hkc2⟩ := hrows.get hn
              have hA' : A = some (A.getD default) := hA.some_ (by omega)
              have hrp' := hrp (by omega)
              have hirow := irows_get hxi
              have hone := fun s (hs : labOf n = [s]) => lab_one hm hxi (by rw [hna]; exact hs)
              have hnone := fun (hs : labOf n = []) => lab_none (t := t) hxi (by rw [hna]; exact hs)
              rw [← ha] at hone hnone
              have hlen : (drawP t).tx.length = (drawP t).ls.length := by simp [Drw.tx]
              have hkd := hfd.kind
              by_cases hsk : n.kind = 0 ∨ n.kind = 4 ∨ n.kind = 5
              · have hno := hnone (labN hsk)
                rcases hsk with e | e | e
                · have q0 : decide (n.kind = 0) = true := by rw [e]; rfl
                  repeat' (first | (refine W1 ?_) | (refine W2 (fun hc => ?_) (fun hc => ?_)) | (intro _))
                  exact TX.round (i + 1, a) ⟨hlt, hno.symm⟩ (show (walkP t).length - (i + 1) < (walkP t).length - i by omega) SubA (fun w' hw => St.inc IncQ hw)
                · have q0 : decide (n.kind = 0) = false := by rw [e]; rfl
                  have q4 : decide (n.kind = 4) = true := by rw [e]; rfl
                  repeat' (first | (refine W1 ?_) | (refine W2 (fun hc => ?_) (fun hc => ?_)) | (intro _))
                  exact TX.round (i + 1, a) ⟨hlt, hno.symm⟩ (show (walkP t).length - (i + 1) < (walkP t).length - i by omega) SubA (fun w' hw => St.inc IncQ hw)
                · have q0 : decide (n.kind = 0) = false := by rw [e]; rfl
                  have q4 : decide (n.kind = 4) = false := by rw [e]; rfl
                  have q5 : decide (n.kind = 5) = true := by rw [e]; rfl
                  repeat' (first | (refine W1 ?_) | (refine W2 (fun hc => ?_) (fun hc => ?_)) | (intro _))
                  exact TX.round (i + 1, a) ⟨hlt, hno.symm⟩ (show (walkP t).length - (i + 1) < (walkP t).length - i by omega) SubA (fun w' hw => St.inc IncQ hw)
              · have q0 : decide (n.kind = 0) = false := decide_eq_false (fun e => hsk (.inl e))
                have q4 : decide (n.kind = 4) = false := decide_eq_false (fun e => hsk (.inr (.inl e)))
                have q5 : decide (n.kind = 5) = false := decide_eq_false (fun e => hsk (.inr (.inr e)))
                obtain ⟨s, hs, hF⟩ := labF hfd ⟨fun e => hsk (.inl e), fun e => hsk (.inr (.inl e)), fun e => hsk (.inr (.inr e))⟩
                obtain ⟨htx, hnx⟩ := hone s hs
                have hal : a < (drawP t).ls.length := by rw [← hlen]; exact (List.getElem?_eq_some_iff.1 htx).1
                have hxx := hx2 (by omega)
                have kge : decide (((drawP t).ls.length : Int) ≤ (a : Int)) = false := decide_eq_false (by omega)
                have kne : decide (s = ⟨#[]⟩) = false := decide_eq_false hF.ne
                repeat' (first | ((apply T.ev_ (d := 83); exact rfl; apply Ev.labT (i := a) (x := x) (D := drawP t) (tx := s); exact rfl; exact rfl; (exact fun w' hw => (RdD.of hw (x := x) (d := drawP t) AtA).2); exact htx)) | ((refine TC.holdR 15 ?_)) | (refine W1 ?_) | (refine W2 (fun hc => ?_) (fun hc => ?_)) | (intro _))
                refine ⟨TC.seq ?_⟩
                dsimp only [List.append]
                have e : n.kind = 1 ∨ n.kind = 2 ∨ n.kind = 3 ∨ n.kind = 6 ∨ n.kind = 7 ∨ n.kind = 8 ∨ n.kind = 9 := by omega
                rcases e with e | e | e | e | e | e | e
                · have q3 : decide (n.kind = 3) = false := by rw [e]; rfl
                  have q9 : decide (n.kind = 9) = false := by rw [e]; rfl
                  have q7 : decide (n.kind = 7) = false := by rw [e]; rfl
                  have q8 : decide (n.kind = 8) = false := by rw [e]; rfl
                  have q2 : decide (n.kind = 2) = false := by rw [e]; rfl
                  have q1 : decide (n.kind = 1) = true := by rw [e]; rfl
                  rcases hF.k1 e with h1 | ⟨h1, h0⟩
                  · have z : (!decide (s = ⟨#[46]⟩)) = false := by rw [decide_eq_true h1]; rfl
                    repeat' (first | (refine W1 ?_) | (refine W2 (fun hc => ?_) (fun hc => ?_)) | (intro _))
                    exact TX.round (i + 1, a + 1) ⟨hlt, hnx.symm⟩ (show (walkP t).length - (i + 1) < (walkP t).length - i by omega) SubA (fun w' hw => St.inc IncQ hw)
                  · have z : (!decide (s = ⟨#[46]⟩)) = true := by rw [decide_eq_false h1]; rfl
                    repeat' (first | ((apply T.ev_ (d := 149); exact rfl; apply Ev.str_index (i := 0); exact rfl; exact rfl; exact h0)) | (refine W1 ?_) | (refine W2 (fun hc => ?_) (fun hc => ?_)) | (intro _))
                    exact TX.round (i + 1, a + 1) ⟨hlt, hnx.symm⟩ (show (walkP t).length - (i + 1) < (walkP t).length - i by omega) SubA (fun w' hw => St.inc IncQ hw)
                · have q3 : decide (n.kind = 3) = false := by rw [e]; rfl
                  have q9 : decide (n.kind = 9) = false := by rw [e]; rfl
                  have q7 : decide (n.kind = 7) = false := by rw [e]; rfl
                  have q8 : decide (n.kind = 8) = false := by rw [e]; rfl
                  have q2 : decide (n.kind = 2) = true := by rw [e]; rfl
                  have q1 : decide (n.kind = 1) = false := by rw [e]; rfl
                  have h0 := hF.k2 e
                  repeat' (first | ((apply T.ev_ (d := 135); exact rfl; apply Ev.str_index (i := 0); exact rfl; exact rfl; exact h0)) | (refine W1 ?_) | (refine W2 (fun hc => ?_) (fun hc => ?_)) | (intro _))
                  exact TX.round (i + 1, a + 1) ⟨hlt, hnx.symm⟩ (show (walkP t).length - (i + 1) < (walkP t).length - i by omega) SubA (fun w' hw => St.inc IncQ hw)
                · have q3 : decide (n.kind = 3) = true := by rw [e]; rfl
                  have q9 : decide (n.kind = 9) = false := by rw [e]; rfl
                  have q7 : decide (n.kind = 7) = false := by rw [e]; rfl
                  have q8 : decide (n.kind = 8) = false := by rw [e]; rfl
                  have q2 : decide (n.kind = 2) = false := by rw [e]; rfl
                  have q1 : decide (n.kind = 1) = false := by rw [e]; rfl
                  have z : (!decide (s = n.text)) = false := by rw [decide_eq_true (hF.k3 e)]; rfl
                  repeat' (first | (refine W1 ?_) | (refine W2 (fun hc => ?_) (fun hc => ?_)) | (intro _))
                  exact TX.round (i + 1, a + 1) ⟨hlt, hnx.symm⟩ (show (walkP t).length - (i + 1) < (walkP t).length - i by omega) SubA (fun w' hw => St.inc IncQ hw)
                · have q3 : decide (n.kind = 3) = false := by rw [e]; rfl
                  have q9 : decide (n.kind = 9) = false := by rw [e]; rfl
                  have q7 : decide (n.kind = 7) = false := by rw [e]; rfl
                  have q8 : decide (n.kind = 8) = false := by rw [e]; rfl
                  have q2 : decide (n.kind = 2) = false := by rw [e]; rfl
                  have q1 : decide (n.kind = 1) = false := by rw [e]; rfl
                  repeat' (first | (refine W1 ?_) | (refine W2 (fun hc => ?_) (fun hc => ?_)) | (intro _))
                  exact TX.round (i + 1, a + 1) ⟨hlt, hnx.symm⟩ (show (walkP t).length - (i + 1) < (walkP t).length - i by omega) SubA (fun w' hw => St.inc IncQ hw)
                · have q3 : decide (n.kind = 3) = false := by rw [e]; rfl
                  have q9 : decide (n.kind = 9) = false := by rw [e]; rfl
                  have q7 : decide (n.kind = 7) = true := by rw [e]; rfl
                  have q8 : decide (n.kind = 8) = false := by rw [e]; rfl
                  have q2 : decide (n.kind = 2) = false := by rw [e]; rfl
                  have q1 : decide (n.kind = 1) = false := by rw [e]; rfl
                  have z : (!decide (s = ⟨#[38]⟩)) = false := by rw [decide_eq_true (hF.k7 e)]; rfl
                  repeat' (first | (refine W1 ?_) | (refine W2 (fun hc => ?_) (fun hc => ?_)) | (intro _))
                  exact TX.round (i + 1, a + 1) ⟨hlt, hnx.symm⟩ (show (walkP t).length - (i + 1) < (walkP t).length - i by omega) SubA (fun w' hw => St.inc IncQ hw)
                · have q3 : decide (n.kind = 3) = false := by rw [e]; rfl
                  have q9 : decide (n.kind = 9) = false := by rw [e]; rfl
                  have q7 : decide (n.kind = 7) = false := by rw [e]; rfl
                  have q8 : decide (n.kind = 8) = true := by rw [e]; rfl
                  have q2 : decide (n.kind = 2) = false := by rw [e]; rfl
                  have q1 : decide (n.kind = 1) = false := by rw [e]; rfl
                  have z : (!decide (s = ⟨#[33]⟩)) = false := by rw [decide_eq_true (hF.k8 e)]; rfl
                  repeat' (first | (refine W1 ?_) | (refine W2 (fun hc => ?_) (fun hc => ?_)) | (intro _))
                  exact TX.round (i + 1, a + 1) ⟨hlt, hnx.symm⟩ (show (walkP t).length - (i + 1) < (walkP t).length - i by omega) SubA (fun w' hw => St.inc IncQ hw)
                · have q3 : decide (n.kind = 3) = false := by rw [e]; rfl
                  have q9 : decide (n.kind = 9) = true := by rw [e]; rfl
                  have q7 : decide (n.kind = 7) = false := by rw [e]; rfl
                  have q8 : decide (n.kind = 8) = false := by rw [e]; rfl
                  have q2 : decide (n.kind = 2) = false := by rw [e]; rfl
                  have q1 : decide (n.kind = 1) = false := by rw [e]; rfl
                  have z : (!decide (s = n.text ++ ⟨#[58]⟩)) = false := by rw [decide_eq_true (hF.k9 e)]; rfl
                  have hsz : n.text.size + (⟨#[58]⟩ : ByteArray).size ≤ maxLen := by have := hfd.text; have e1 : (⟨#[58]⟩ : ByteArray).size = 1 := rfl; rw [e1]; unfold maxLen; omega
                  repeat' (first | ((apply T.ev_ (d := 107); exact rfl; apply Ev.str_add; exact rfl; exact rfl; exact hsz)) | (refine W1 ?_) | (refine W2 (fun hc => ?_) (fun hc => ?_)) | (intro _))
                  exact TX.round (i + 1, a + 1) ⟨hlt, hnx.symm⟩ (show (walkP t).length - (i + 1) < (walkP t).length - i by omega) SubA (fun w' hw => St.inc IncQ hw)
            · have hck : decide ((i : Int) < ((walkP t).length : Int)) = false := decide_eq_false (by omega)
              obtain rfl : i = (walkP t).length := by omega
              rw [labC_end hm] at ha
              subst ha
              repeat' (first | (refine W1 ?_) | (refine W2 (fun hc => ?_) (fun hc => ?_)) | (intro _))
              exact TX.join () SubA (fun w' hw => St.inc IncQ hw)
        · obtain ⟨sr, hsr⟩ : ∃ sr, sheetB l = sr := ⟨_, rfl⟩
          obtain ⟨S, sok⟩ := sr
          repeat' (first | (refine W1 ?_) | (refine W2 (fun hc => ?_) (fun hc => ?_)) | (intro _))
          refine T.callR (f := 18) rfl rfl (fun w' hw' => by have h := sheet_any l B bc w' (St.old_sl RRow.rd hw' hg0) hwl (Tab.st hT hw') (TabZ.st hZ hw'); rw [hsr] at h; exact h) (fun y _ => ?_)
          dsimp only
          cases sok with
          | false =>
            repeat' (first | (refine W1 ?_) | (refine W2 (fun hc => ?_) (fun hc => ?_)) | (intro _))
            rename_i b12
            refine TC.loopA (ι := Unit) () (fun _ r => (15, .int .i64 0) :: (14, .int .i64 (l.length : Nat)) :: r) (fun _ => St w [blk b12 (rowD y S) 39, hDr y S, blk b5 (rowD x D) 39, hDr x D, blk b3 [.slice B l.length bc] 56, blk b2 [.slice A t.nodes.length cc, .int .i64 t.root] 27]) (fun _ => True) (fun _ => 0) KpA SubA (fun w' hw => hw) trivial ?_
            intro _ _
            have ke : decide ((D.ls.length : Int) = (D.ls.length : Int)) = true := decide_eq_true rfl
            by_cases h0 : 0 < l.length
            · have hck : decide (0 < (l.length : Int)) = true := decide_eq_true (by omega)
              repeat' (first | (refine W1 ?_) | (refine W2 (fun hc => ?_) (fun hc => ?_)) | (intro _))
              exact TX.ret_tmp rfl rfl (fun w' hw => RetV.eq hw rfl)
            · have hck : decide (0 < (l.length : Int)) = false := decide_eq_false (by omega)
              repeat' (first | (refine W1 ?_) | (refine W2 (fun hc => ?_) (fun hc => ?_)) | (intro _))
              exact TX.ret_tmp rfl rfl (fun w' hw => RetV.eq hw rfl)
          | true =>
            obtain ⟨h64, hmay, rfl⟩ := sheetB_yes hsr
            repeat' (first | (refine W1 ?_) | (refine W2 (fun hc => ?_) (fun hc => ?_)) | (intro _))
            rename_i b12
            generalize hS : (shF l).1 = S at *
            refine TC.loopA (ι := Nat × Nat) (0, l.length) (fun k r => (15, .int .i64 k.1) :: (14, .int .i64 k.2) :: r) (fun _ => St w [blk b12 (rowD y S) 39, hDr y S, blk b5 (rowD x D) 39, hDr x D, blk b3 [.slice B l.length bc] 56, blk b2 [.slice A t.nodes.length cc, .int .i64 t.root] 27]) (fun k => k.1 ≤ l.length ∧ k.2 + k.1 = l.length + (shF (l.take k.1)).1.ls.length) (fun k => l.length - k.1) KpA SubA (fun w' hw => hw) ⟨Nat.zero_le _, rfl⟩ ?_
            rintro ⟨i, a⟩ ⟨hi, ha⟩
            simp only at hi ha ⊢
            have hok := shOk hmay i hi
            have ho2 := hok.n2
            by_cases hlt : i < l.length
            · have hck : decide ((i : Int) < (l.length : Int)) = true := decide_eq_true (by omega)
              have hgx : l[i]? = some l[i] := List.getElem?_eq_getElem hlt
              have hmem := List.getElem_mem hlt
              have hwt := hwl _ hmem
              have hmr := hmay _ hmem
              have hst := shF_step hgx
              obtain ⟨cs, hcs, K, kc, rfl, Kn⟩ := hbr.get hgx
              generalize l[i] = r at *
              have hB' : B = some (B.getD default) := hB.some_ (by omega)
              have hru : RTree (Old w) w (.agg #[.slice K r.2.nodes.length kc, .int .i64 r.2.root]) r.2 := ⟨_, rfl, Kn⟩
              have hdu : drawB r.2 = (drawP r.2, true) := by unfold drawB; rw [if_pos hmr]
              have hk2 := (told_of hmr).n2
              have hn1 : (shF (l.take (i + 1))).1.ls.length = (shF (l.take i)).1.ls.length + 1 + (drawP r.2).ls.length := by rw [hst]; simp [shStep, mvL]; omega
              generalize drawP r.2 = k at *
              repeat' (first | ((apply T.ev_ (d := 177); exact rfl; apply Ev.elemP (i := i) (o := 1) (sz := 3) (A := B) (rows := brows) (cs := [.slice K r.2.nodes.length kc, .int .i64 r.2.root]); exact rfl; exact rfl; (exact fun w' hw' => St.old_arr hw' hB); exact hcs; exact rfl; exact rfl)) | (refine W1 ?_) | (refine W2 (fun hc => ?_) (fun hc => ?_)) | (intro _))
              refine T.callR (f := 9) rfl rfl (fun w' hw' => by have h := draw_any _ r.2 w' (St.old_tree hw' hru) hwt (Tab.st hT hw') (TabZ.st hZ hw'); rw [hdu] at h; exact h) (fun y2 _ => ?_)
              dsimp only
              repeat' (first | (refine W1 ?_) | (refine W2 (fun hc => ?_) (fun hc => ?_)) | (intro _))
              exact TX.round (i + 1, a + k.ls.length) ⟨hlt, by simp only; omega⟩ (show l.length - (i + 1) < l.length - i by omega) SubA (fun w' hw => by
                have g0 : St w (_ :: _ :: blk b12 (rowD y S) 39 :: hDr y S :: blk b5 (rowD x D) 39 :: hDr x D :: blk b3 [.slice B l.length bc] 56 :: blk b2 [.slice A t.nodes.length cc, .int .i64 t.root] 27 :: []) w' := hw
                exact St.inc IncQ g0)
            · have hck : decide ((i : Int) < (l.length : Int)) = false := decide_eq_false (by omega)
              obtain rfl : i = l.length := by omega
              rw [List.take_of_length_le (Nat.le_refl _), hS] at ha
              have ke : decide ((D.ls.length : Int) = (D.ls.length : Int)) = true := decide_eq_true rfl
              have ke2 : decide ((S.ls.length : Int) = (a : Int)) = true := decide_eq_true (by omega)
              repeat' (first | (refine W1 ?_) | (refine W2 (fun hc => ?_) (fun hc => ?_)) | (intro _))
              exact TX.ret_tmp rfl rfl (fun w' hw => RetV.eq hw (by rw [ke2]))
theorem railLabels_any (v g : Value) (t : Tre) (l : List Row) (w : World) (hr : RTree (Old w) w v t) (hg : RGram (Old w) w g l) (ht : t.wf) (hl : l.length ≤ 4398046511104) (hwl : ∀ r ∈ l, r.2.wf ∧ r.1.size ≤ 140737488355328) (hT : Tab w) (hZ : TabZ w) : Calls Tryz.prog 5 #[v, g] w (RetV w (.bool true)) := by
  obtain ⟨B, bc, rfl, hg⟩ := hg
  exact railLabels_go v t l B bc w hr ht hg hl (fun r hr => (hwl r hr).1) hT hZ
end Go.Proofs.YtalnmednhhimhaaGreatDoor
