/-
  The law RailWithin, walked: it answers true.
-/
import Derived.Test.YtalnmednhhimhaaDoorRailD
set_option linter.all false
namespace Go.Proofs.YtalnmednhhimhaaDoor
open Go Go.Sl Go.RowKit Go.Bonsai Go.Fl
set_option linter.unusedVariables false
set_option linter.unusedSimpArgs false
theorem ne_iff {a b c d : Int} (h : ¬ (a = b ↔ c = d)) : (decide (b = a) == decide (d = c)) = false := by
  by_cases e1 : b = a
  · by_cases e2 : d = c
    · exact absurd ⟨fun _ => e2.symm, fun _ => e1.symm⟩ h
    · rw [decide_eq_true e1, decide_eq_false e2]; rfl
  · by_cases e2 : d = c
    · rw [decide_eq_false e1, decide_eq_true e2]; rfl
    · exact absurd ⟨fun e => absurd e.symm e1, fun e => absurd e.symm e2⟩ h
abbrev toldP (x : PP) (D : Drw) : List HP := [hSl 1 RStrI RStrI.rd (.slice x.1.1 D.ss.length x.1.2) D.ss, hSl 3 RLabI RLabI.rd (.slice x.2.1 D.ls.length x.2.2) D.ls]
theorem told_any' {w0 w : World} {L : List HP} {D : Drw} (x : PP) (h : TolD D) (hw : St w0 L w) (ha : At L (hDr x D)) : Calls Tryd.prog 10 #[dVal x.1 x.2 D] w (Ret w (fun x : PP => .tuple #[dVal x.1 x.2 D, .bool true]) (fun x => toldP x D) (fun _ => True)) :=
  told_any D x.1 x.2 w (RdD.of hw ha) ⟨by have := h.n1; omega, by have := h.n2; omega⟩ h.ss h.ls
set_option maxHeartbeats 4000000 in
set_option maxRecDepth 100000 in
theorem railWithin_any (v : Value) (t : Tre) (w : World) (hr : RTree (Old w) w v t) (ht : t.wf) (hT : Tab w) (hZ : TabZ w) : Calls Tryd.prog 3 #[v] w (RetV w (.bool true)) := by
  have hr0 := hr
  obtain ⟨nv, rfl, hn⟩ := hr
  obtain ⟨A, cc, _, rfl, _⟩ := hn
  refine TC.calls (l := [.agg #[.slice A t.nodes.length cc, .int .i64 t.root]]) Tryd.func3 rfl Tryd.ntmps3 rfl (St.start w) ?_
  repeat' (first | (refine W1 ?_) | (refine W2 (fun hc => ?_) (fun hc => ?_)) | (intro _))
  rename_i b1 B
  refine T.callR (f := 6) rfl rfl (fun w' hw' => large6_any _ [t] w' (RTrees.of rfl hw' .here (All2.more (RTree.c (St.old_tree hw' hr0)) .nil)) (by show 1 ≤ _; omega) (fun x hx => by rw [List.mem_singleton] at hx; subst hx; exact ht)) (fun lg _ => ?_)
  cases lg with
  | true =>
    repeat' (first | ((apply T.callV (f := 7); exact rfl; exact rfl; (intro w' hw'; exact awake6_any w' (Tab.st hT hw') (TabZ.st hZ hw')))) | (refine W1 ?_) | (refine W2 (fun hc => ?_) (fun hc => ?_)) | (intro _))
    exact TX.ret_tmp rfl rfl (fun w' hw => RetV.eq hw rfl)
  | false =>
    repeat' (first | ((apply T.callV (f := 7); exact rfl; exact rfl; (intro w' hw'; exact awake6_any w' (Tab.st hT hw') (TabZ.st hZ hw')))) | (refine W1 ?_) | (refine W2 (fun hc => ?_) (fun hc => ?_)) | (intro _))
    obtain ⟨r, hrr⟩ : ∃ r, drawB t = r := ⟨_, rfl⟩
    obtain ⟨D, ok⟩ := r
    refine T.callR (f := 8) rfl rfl (fun w' hw' => by have h := draw_any _ t w' (St.old_tree hw' hr0) ht (Tab.st hT hw') (TabZ.st hZ hw'); rw [hrr] at h; exact h) (fun x _ => ?_)
    dsimp only
    cases ok with
    | false =>
      have hm := drawB_no hrr
      repeat' (first | ((apply T.callV (f := 9); exact rfl; exact rfl; (intro w' hw'; exact may_any _ t w' (St.old_tree hw' hr0) ht (Tab.st hT hw')))) | (refine W1 ?_) | (refine W2 (fun hc => ?_) (fun hc => ?_)) | (intro _))
      exact TX.ret_tmp rfl rfl (fun w' hw => RetV.eq hw (by rw [hm]; rfl))
    | true =>
      obtain ⟨hD, hm, _⟩ := drawB_yes hrr
      repeat' (first | (refine W1 ?_) | (refine W2 (fun hc => ?_) (fun hc => ?_)) | (intro _))
      rename_i b3
      refine T.sub (M' := St w [blk b3 (rowD x D) 30, hDr x D]) (fun w' hw => by
        have g0 : St w (blk b3 (rowD x D) 30 :: hDr x D :: _) w' := hw
        exact St.inc IncQ g0) ?_
      refine T.callR (f := 10) rfl rfl (fun w' hw' => told_any' x hD hw' AtA) (fun z _ => ?_)
      repeat' (first | ((refine TC.holdR 9 ?_)) | (refine W1 ?_) | (refine W2 (fun hc => ?_) (fun hc => ?_)) | (intro _))
      rename_i b5
      refine ⟨?_⟩
      refine TC.ex (ι := List (List Value)) (M' := fun sr => St w [hSr 1 RStrI RStrI.rd z.1.1 D.ss.length sr D.ss, hSr 3 RLabI RLabI.rd z.2.1 D.ls.length (lRows D.ls) D.ls, blk b5 (rowD z D) 37, blk b3 (rowD x D) 30]) (fun w' hw => ?_) (fun sr => ?_)
      · have g0 : St w (blk b5 (rowD z D) 37 :: hSl 1 RStrI RStrI.rd (.slice z.1.1 D.ss.length z.1.2) D.ss :: hSl 3 RLabI RLabI.rd (.slice z.2.1 D.ls.length z.2.2) D.ls :: blk b3 (rowD x D) 30 :: _) w' := hw
        obtain ⟨sr, h1⟩ := St.weakEx (H' := fun rows => hSr 1 RStrI RStrI.rd z.1.1 D.ss.length rows D.ss) (fun S w h => hSl_open h) (St.del (H := hSl 1 RStrI RStrI.rd (.slice z.1.1 D.ss.length z.1.2) D.ss) DelA g0)
        obtain ⟨lr, h2⟩ := St.weakEx (H' := fun rows => hSr 3 RLabI RLabI.rd z.2.1 D.ls.length rows D.ls) (fun S w h => hSl_open h) (St.del (H := hSl 3 RLabI RLabI.rd (.slice z.2.1 D.ls.length z.2.2) D.ls) DelA h1)
        have e : lr = lRows D.ls := lRows_of (St.sr_all (A := z.2.1) (n := D.ls.length) (xs := D.ls) (R := RLabI) (hR := RLabI.rd) h2 AtA)
        subst e
        exact ⟨sr, St.inc IncQ h2⟩
      refine TC.fact (φ := 0 < D.ss.length → z.1.1 = some (z.1.1.getD default)) (fun w' hw h0 => (St.sr_arr (xs := D.ss) (R := RStrI) (hR := RStrI.rd) hw AtA).some_ h0) (fun hz1 => ?_)
      refine TC.fact (φ := 0 < D.ls.length → z.2.1 = some (z.2.1.getD default)) (fun w' hw h0 => (St.sr_arr (xs := D.ls) (R := RLabI) (hR := RLabI.rd) hw AtA).some_ h0) (fun hz2 => ?_)
      have dw := hD.w; have du := hD.up; have dd := hD.dn; have n1 := hD.n1; have n2 := hD.n2; have d5 := hD.five
      have dw0 := hD.in_.w; have du0 := hD.in_.up; have dd0 := hD.in_.dn; have dss := hD.in_.ss; have dls := hD.in_.ls
      repeat' (first | (refine W1 ?_) | (refine W2 (fun hc => ?_) (fun hc => ?_)) | (intro _))
      refine TC.loopA (ι := Nat) 0 (fun i r => (7, .int .i64 i) :: r) (fun _ => St w [hSr 1 RStrI RStrI.rd z.1.1 D.ss.length sr D.ss, hSr 3 RLabI RLabI.rd z.2.1 D.ls.length (lRows D.ls) D.ls, blk b5 (rowD z D) 37, blk b3 (rowD x D) 30]) (fun i => i ≤ D.ss.length) (fun i => D.ss.length - i) KpA SubA (fun w' hw => hw) (Nat.zero_le _) ?_
      intro i hi
      by_cases hlt : i < D.ss.length
      · have hck : decide ((i : Int) < (D.ss.length : Int)) = true := decide_eq_true (by omega)
        have hgx : D.ss[i]? = some D.ss[i] := List.getElem?_eq_getElem hlt
        have hmem := List.getElem_mem hlt
        generalize D.ss[i] = s at *
        obtain ⟨s2, s3, s4⟩ := dss s hmem
        have s5 := d5 s hmem
        have hzz := hz1 (by omega)
        refine TC.fact (φ := ∃ A c, sr[i]? = some [.slice A s.length c] ∧ (0 < s.length → A = some (A.getD default))) (fun w' hw => strI_row (St.sr_all (A := z.1.1) (n := D.ss.length) (xs := D.ss) (R := RStrI) (hR := RStrI.rd) hw AtA) hgx) ?_
        rintro ⟨Ai, ci, hrow, hAi0⟩
        have hAi := hAi0 (by omega)
        have hWW : ∀ w', St w [hSr 1 RStrI RStrI.rd z.1.1 D.ss.length sr D.ss, hSr 3 RLabI RLabI.rd z.2.1 D.ls.length (lRows D.ls) D.ls, blk b5 (rowD z D) 37, blk b3 (rowD x D) 30] w' → Arr 2 (Old w') w' Ai s.length (pRows s) := fun w' hw => strI_arr (St.sr_all (A := z.1.1) (n := D.ss.length) (xs := D.ss) (R := RStrI) (hR := RStrI.rd) hw AtA) hgx hrow
        have hc2 : decide ((s.length : Int) < 2) = false := decide_eq_false (by omega)
        repeat' (first | (refine W1 ?_) | (refine W2 (fun hc => ?_) (fun hc => ?_)) | (intro _))
        refine TC.loopA (ι := Nat) 0 (fun j r => (9, .int .i64 j) :: r) (fun _ => St w [hSr 1 RStrI RStrI.rd z.1.1 D.ss.length sr D.ss, hSr 3 RLabI RLabI.rd z.2.1 D.ls.length (lRows D.ls) D.ls, blk b5 (rowD z D) 37, blk b3 (rowD x D) 30]) (fun j => j ≤ s.length) (fun j => s.length - j) KpA SubA (fun w' hw => hw) (Nat.zero_le _) ?_
        intro j hj
        by_cases hlj : j < s.length
        · have hck2 : decide ((j : Int) < (s.length : Int)) = true := decide_eq_true (by omega)
          have hgp : s[j]? = some s[j] := List.getElem?_eq_getElem hlj
          have hpm := List.getElem_mem hlj
          generalize s[j] = p at *
          obtain ⟨q1, q2, q3, q4⟩ := s4 p hpm
          have hrp := pRows_get hgp
          have k1 : decide (p.1 < 0) = false := decide_eq_false (by omega)
          have k2 : decide (D.w < p.1) = false := decide_eq_false (by omega)
          have k3 : decide (p.2 < -D.up) = false := decide_eq_false (by omega)
          have k4 : decide (D.dn < p.2) = false := decide_eq_false (by omega)
          have kI : I64 (-D.up) := by unfold I64; omega
          repeat' (first | ((refine TC.holdR 18 ?_)) | (refine W1 ?_) | (refine W2 (fun hc => ?_) (fun hc => ?_)) | (intro _))
          refine ⟨TC.seq ?_⟩
          dsimp only [List.append]
          by_cases hj0 : j = 0
          · have k5 : decide (0 < (j : Int)) = false := decide_eq_false (by omega)
            repeat' (first | ((apply TL.quiet; exact rfl; exact rfl; exact DropA; apply Ev.cell (i := j) (o := 0) (A := Ai) (rows := pRows s); exact rfl; exact rfl; exact hWW; exact hrp; exact rfl)) | ((apply TL.quiet; exact rfl; exact rfl; exact DropA; apply Ev.cell (i := j) (o := 1) (A := Ai) (rows := pRows s); exact rfl; exact rfl; exact hWW; exact hrp; exact rfl)) | ((apply TL.pure_; exact rfl; exact rfl; apply Ev.neg; exact rfl; exact kI)) | (refine W1 ?_) | (refine W2 (fun hc => ?_) (fun hc => ?_)) | (intro _))
            exact TX.round (j + 1) hlj (show s.length - (j + 1) < s.length - j by omega) SubA (fun w' hw => hw)
          · have k5 : decide (0 < (j : Int)) = true := decide_eq_true (by omega)
            have hjl : j - 1 < s.length := by omega
            have hgq : s[j - 1]? = some s[j - 1] := List.getElem?_eq_getElem hjl
            generalize s[j - 1] = q at *
            have hrq := pRows_get hgq
            have hst := strt_at s3 hgq (by rw [show j - 1 + 1 = j by omega]; exact hgp)
            have k6 : (decide (p.1 = q.1) == decide (p.2 = q.2)) = false := ne_iff hst
            repeat' (first | ((apply TL.quiet; exact rfl; exact rfl; exact DropA; apply Ev.cell (i := j) (o := 0) (A := Ai) (rows := pRows s); exact rfl; exact rfl; exact hWW; exact hrp; exact rfl)) | ((apply TL.quiet; exact rfl; exact rfl; exact DropA; apply Ev.cell (i := j) (o := 1) (A := Ai) (rows := pRows s); exact rfl; exact rfl; exact hWW; exact hrp; exact rfl)) | ((apply TL.quiet; exact rfl; exact rfl; exact DropA; apply Ev.cell (i := j - 1) (o := 0) (A := Ai) (rows := pRows s); exact rfl; exact rfl; exact hWW; exact hrq; exact rfl)) | ((apply TL.quiet; exact rfl; exact rfl; exact DropA; apply Ev.cell (i := j - 1) (o := 1) (A := Ai) (rows := pRows s); exact rfl; exact rfl; exact hWW; exact hrq; exact rfl)) | ((apply TL.pure_; exact rfl; exact rfl; apply Ev.neg; exact rfl; exact kI)) | (refine W1 ?_) | (refine W2 (fun hc => ?_) (fun hc => ?_)) | (intro _))
            exact TX.round (j + 1) hlj (show s.length - (j + 1) < s.length - j by omega) SubA (fun w' hw => hw)
        have hck2 : decide ((j : Int) < (s.length : Int)) = false := decide_eq_false (by omega)
        repeat' (first | (refine W1 ?_) | (refine W2 (fun hc => ?_) (fun hc => ?_)) | (intro _))
        exact TX.round (i + 1) hlt (show D.ss.length - (i + 1) < D.ss.length - i by omega) SubA (fun w' hw => hw)
      have hck : decide ((i : Int) < (D.ss.length : Int)) = false := decide_eq_false (by omega)
      repeat' (first | (refine W1 ?_) | (refine W2 (fun hc => ?_) (fun hc => ?_)) | (intro _))
      refine TC.loopA (ι := Nat) 0 (fun i r => (10, .int .i64 i) :: r) (fun _ => St w [hSr 1 RStrI RStrI.rd z.1.1 D.ss.length sr D.ss, hSr 3 RLabI RLabI.rd z.2.1 D.ls.length (lRows D.ls) D.ls, blk b5 (rowD z D) 37, blk b3 (rowD x D) 30]) (fun i => i ≤ D.ls.length) (fun i => D.ls.length - i) KpA SubA (fun w' hw => hw) (Nat.zero_le _) ?_
      intro k hk
      by_cases hlk : k < D.ls.length
      · have hck2 : decide ((k : Int) < (D.ls.length : Int)) = true := decide_eq_true (by omega)
        have hgx : D.ls[k]? = some D.ls[k] := List.getElem?_eq_getElem hlk
        have hmem := List.getElem_mem hlk
        generalize D.ls[k] = l at *
        obtain ⟨q1, q2, q3, q4⟩ := dls l hmem
        have hrl := lRows_get hgx
        have hzz := hz2 (by omega)
        have k1 : decide (l.1.1 < 0) = false := decide_eq_false (by omega)
        have k2 : decide (D.w < l.1.1 + (l.2.size : Int)) = false := decide_eq_false (by omega)
        have k3 : decide (l.1.2 < -D.up) = false := decide_eq_false (by omega)
        have k4 : decide (D.dn < l.1.2) = false := decide_eq_false (by omega)
        have kI : I64 (-D.up) := by unfold I64; omega
        have kI2 : I64 (l.1.1 + (l.2.size : Int)) := by unfold I64; omega
        repeat' (first | ((apply T.ev_ (d := 138); exact rfl; apply Ev.elemP (i := k) (o := 0); exact rfl; exact rfl; (exact fun w' hw' => St.has_arr hw' (.there .here)); exact hrl; exact rfl; exact rfl)) | ((apply TL.pure_; exact rfl; exact rfl; apply Ev.neg; exact rfl; exact kI)) | (refine W1 ?_) | (refine W2 (fun hc => ?_) (fun hc => ?_)) | (intro _))
        exact TX.round (k + 1) hlk (show D.ls.length - (k + 1) < D.ls.length - k by omega) SubA (fun w' hw => St.inc IncQ hw)
      have hck2 : decide ((k : Int) < (D.ls.length : Int)) = false := decide_eq_false (by omega)
      repeat' (first | (refine W1 ?_) | (refine W2 (fun hc => ?_) (fun hc => ?_)) | (intro _))
      exact TX.ret_tmp rfl rfl (fun w' hw => RetV.eq hw rfl)
end Go.Proofs.YtalnmednhhimhaaDoor
