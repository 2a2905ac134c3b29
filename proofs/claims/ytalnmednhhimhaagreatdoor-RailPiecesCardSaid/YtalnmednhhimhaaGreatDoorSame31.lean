/-
  The document's Same, of two drawings that are told alike, and the law's same, walked.
-/
import Derived.Test.YtalnmednhhimhaaGreatDoorRailD
set_option linter.all false
namespace Go.Proofs.YtalnmednhhimhaaGreatDoor
open Go Go.Sl Go.RowKit Go.Bonsai Go.Fl
set_option linter.unusedVariables false
set_option linter.unusedSimpArgs false
theorem pt_self (a0 a1 : Int) (w : World) (m : Nat) : (Op.equalIn (m + 2) 89 (.agg #[.int .i64 a0, .int .i64 a1]) (.agg #[.int .i64 a0, .int .i64 a1])).run Tryz.prog w = .ok true w := by
  have h1 : ∀ (a b : Int) w, (Op.equalIn (m + 1) 3 (.int .i64 a) (.int .i64 b)).run Tryz.prog w = .ok (a == b) w := fun a b w => run_equalIn_int w m _ _ _ a b Tryz.underlying3
  have h3 : ∀ w, (isAgg 3).run Tryz.prog w = .ok false w := fun w => by simp [isAgg, run_underlying Tryz.underlying3]
  show (Op.equalIn ((m + 1) + 1) _ _ _).run _ _ = _
  rw [Op.equalIn]
  simp only [Sem.run_bind, run_underlying Tryz.underlying89, Result.andThen_ok]
  simp [part, h1, h3]
theorem lab_self (a0 a1 : Int) (s : ByteArray) (w : World) : (Op.equalIn 10000 93 (.agg #[.int .i64 a0, .int .i64 a1, .string s]) (.agg #[.int .i64 a0, .int .i64 a1, .string s])).run Tryz.prog w = .ok true w := by
  have h1 := fun w => pt_self a0 a1 w 9997
  have h2 : ∀ w, (isAgg 89).run Tryz.prog w = .ok true w := fun w => by simp [isAgg, run_underlying Tryz.underlying89]
  have h3 : ∀ w, (isAgg 9).run Tryz.prog w = .ok false w := fun w => by simp [isAgg, run_underlying Tryz.underlying9]
  have h4 : ∀ w, (sizeOf 89).run Tryz.prog w = .ok 2 w := fun w => by
    obtain ⟨i, hi, hk⟩ := (inferInstance : SZ Tryz.prog 89 2).info
    simp [sizeOf, typeInfo, hi, hk]
  have h5 : ∀ w, (Op.equalIn 9999 9 (.string s) (.string s)).run Tryz.prog w = .ok true w := fun w => by
    show (Op.equalIn (9998 + 1) _ _ _).run _ _ = _
    rw [Op.equalIn]
    simp [run_underlying Tryz.underlying9]
    show (s.data == s.data) = true
    exact beq_self_eq_true _
  show (Op.equalIn (9999 + 1) _ _ _).run _ _ = _
  rw [Op.equalIn]
  simp only [Sem.run_bind, run_underlying Tryz.underlying93, Result.andThen_ok]
  simp [part, h1, h2, h3, h4, h5]
theorem Ev.pt_neqS {n : FD} {s : Sg} {M : World → Prop} {ty u : TypeId} {x y : Operand} {a : Pt} (hx : ev s x = some (.agg #[.int .i64 a.1, .int .i64 a.2])) (hy : ev s y = some (.agg #[.int .i64 a.1, .int .i64 a.2])) :
    Ev Tryz.prog n s M (.binOp .neq 89 x y u) ty (.bool false) := by
  refine ⟨fun ac w o ho ht hf hm => ?_⟩
  have hg : Tryz.prog.eqGuardType Tryz.prog.depth 89 = false := by kernel_rfl
  have h := pt_self a.1 a.2 w 9998
  simp only [execOp, ho, hf.ev hx, hf.ev hy]
  simp [run_eqGuard_agg w _ _ _ _ _ _ hg, run_neq_struct, h]
theorem Ev.lab_neqS {n : FD} {s : Sg} {M : World → Prop} {ty u : TypeId} {x y : Operand} {a : Pt × ByteArray} (hx : ev s x = some (.agg #[.int .i64 a.1.1, .int .i64 a.1.2, .string a.2])) (hy : ev s y = some (.agg #[.int .i64 a.1.1, .int .i64 a.1.2, .string a.2])) :
    Ev Tryz.prog n s M (.binOp .neq 93 x y u) ty (.bool false) := by
  refine ⟨fun ac w o ho ht hf hm => ?_⟩
  have hg : Tryz.prog.eqGuardType Tryz.prog.depth 93 = false := by kernel_rfl
  have h := lab_self a.1.1 a.1.2 a.2 w
  simp only [execOp, ho, hf.ev hx, hf.ev hy]
  simp [run_eqGuard_agg w _ _ _ _ _ _ hg, run_neq_struct, h]
/-- what is told of a drawing, read -/
abbrev RdT (w : World) (x : PP) (d : Drw) : Prop := RSl 1 RStrI (Old w) w (.slice x.1.1 d.ss.length x.1.2) d.ss ∧ RSl 3 RLabI (Old w) w (.slice x.2.1 d.ls.length x.2.2) d.ls
theorem slice_inj {A B : Option Addr} {n c m d : Nat} (h : Value.slice A n c = .slice B m d) : A = B ∧ n = m ∧ c = d := by
  injection h with h1 h2 h3
  exact ⟨h1, h2, h3⟩
set_option maxHeartbeats 4000000 in
set_option maxRecDepth 20000 in
theorem same31_any (d : Drw) (x y : PP) (w : World) (hx : RdT w x d) (hy : RdT w y d) (n1 : d.ss.length ≤ 1000000000) (n2 : d.ls.length ≤ 1000000000) (h5 : ∀ s ∈ d.ss, s.length ≤ 1000000) : Calls Tryz.prog 37 #[dVal x.1 x.2 d, dVal y.1 y.2 d] w (RetV w (.bool true)) := by
  obtain ⟨⟨A, ca, sr, e1, hA, hs, _⟩, ⟨B, cb, lr, e2, hB, hl, _⟩⟩ := hx
  obtain ⟨⟨A', ca', sr', e3, hA', hs', _⟩, ⟨B', cb', lr', e4, hB', hl', _⟩⟩ := hy
  obtain ⟨⟨x1, x2⟩, ⟨x3, x4⟩⟩ := x
  obtain ⟨⟨y1, y2⟩, ⟨y3, y4⟩⟩ := y
  simp only at e1 e2 e3 e4
  obtain ⟨rfl, _, rfl⟩ := slice_inj e1
  obtain ⟨rfl, _, rfl⟩ := slice_inj e2
  obtain ⟨rfl, _, rfl⟩ := slice_inj e3
  obtain ⟨rfl, _, rfl⟩ := slice_inj e4
  obtain rfl := lRows_of hl
  obtain rfl := lRows_of hl'
  refine TC.calls (l := [dVal (x1, x2) (x3, x4) d, dVal (y1, y2) (y3, y4) d]) Tryz.func37 rfl Tryz.ntmps37 rfl (St.start w) ?_
  have k1 : (!decide (d.w = d.w)) = false := by simp
  have k2 : (!decide (d.up = d.up)) = false := by simp
  have k3 : (!decide (d.dn = d.dn)) = false := by simp
  have k4 : (!decide ((d.ss.length : Int) = (d.ss.length : Int))) = false := by simp
  have k5 : (!decide ((d.ls.length : Int) = (d.ls.length : Int))) = false := by simp
  repeat' (first | (refine W1 ?_) | (refine W2 (fun hc => ?_) (fun hc => ?_)) | (intro _))
  rename_i b2 b3
  refine TC.loopA (ι := Nat) 0 (fun i r => (5, .int .i64 i) :: r) (fun _ => St w [blk b3 (rowD ((y1, y2), (y3, y4)) d) 49, blk b2 (rowD ((x1, x2), (x3, x4)) d) 49]) (fun i => i ≤ d.ss.length) (fun i => d.ss.length - i) KpA SubA (fun w' hw => hw) (Nat.zero_le _) ?_
  intro i hi
  by_cases hlt : i < d.ss.length
  · have hck : decide ((i : Int) < (d.ss.length : Int)) = true := decide_eq_true (by omega)
    have hgx : d.ss[i]? = some d.ss[i] := List.getElem?_eq_getElem hlt
    have hmem := List.getElem_mem hlt
    generalize d.ss[i] = s at *
    have s5 := h5 s hmem
    obtain ⟨cs, hcs, _, rfl, Ai, ci, pr, rfl, hAi, hpi, _⟩ := hs.get hgx
    obtain ⟨cs', hcs', _, rfl, Aj, cj, pr', rfl, hAj, hpj, _⟩ := hs'.get hgx
    obtain rfl := pRows_of hpi
    obtain rfl := pRows_of hpj
    have hx1 : x1 = some (x1.getD default) := hA.some_ (by omega)
    have hy1 : y1 = some (y1.getD default) := hA'.some_ (by omega)
    have k6 : (!decide ((s.length : Int) = (s.length : Int))) = false := by simp
    have hoA : ∀ w', St w [blk b3 (rowD ((y1, y2), (y3, y4)) d) 49, blk b2 (rowD ((x1, x2), (x3, x4)) d) 49] w' → Arr 1 (Old w') w' x1 d.ss.length sr := fun w' hw' => St.old_arr hw' hA
    have hoB : ∀ w', St w [blk b3 (rowD ((y1, y2), (y3, y4)) d) 49, blk b2 (rowD ((x1, x2), (x3, x4)) d) 49] w' → Arr 1 (Old w') w' y1 d.ss.length sr' := fun w' hw' => St.old_arr hw' hA'
    repeat' (first | ((apply TL.quiet; exact rfl; exact rfl; exact DropA; apply Ev.cell0 (i := i) (A := x1) (rows := sr); exact rfl; exact rfl; exact hoA; exact hcs; exact rfl)) | ((apply TL.quiet; exact rfl; exact rfl; exact DropA; apply Ev.cell0 (i := i) (A := y1) (rows := sr'); exact rfl; exact rfl; exact hoB; exact hcs'; exact rfl)) | (refine W1 ?_) | (refine W2 (fun hc => ?_) (fun hc => ?_)) | (intro _))
    refine TC.loopA (ι := Nat) 0 (fun j r => (6, .int .i64 j) :: r) (fun _ => St w [blk b3 (rowD ((y1, y2), (y3, y4)) d) 49, blk b2 (rowD ((x1, x2), (x3, x4)) d) 49]) (fun j => j ≤ s.length) (fun j => s.length - j) KpA SubA (fun w' hw => hw) (Nat.zero_le _) ?_
    intro j hj
    by_cases hlj : j < s.length
    · have hck2 : decide ((j : Int) < (s.length : Int)) = true := decide_eq_true (by omega)
      have hgp : s[j]? = some s[j] := List.getElem?_eq_getElem hlj
      generalize s[j] = p at *
      have hrp := pRows_get hgp
      have hAi' : Ai = some (Ai.getD default) := hAi.some_ (by omega)
      have hAj' : Aj = some (Aj.getD default) := hAj.some_ (by omega)
      have hoC : ∀ w', St w [blk b3 (rowD ((y1, y2), (y3, y4)) d) 49, blk b2 (rowD ((x1, x2), (x3, x4)) d) 49] w' → Arr 2 (Old w') w' Ai s.length (pRows s) := fun w' hw' => St.old_arr hw' hAi
      have hoD : ∀ w', St w [blk b3 (rowD ((y1, y2), (y3, y4)) d) 49, blk b2 (rowD ((x1, x2), (x3, x4)) d) 49] w' → Arr 2 (Old w') w' Aj s.length (pRows s) := fun w' hw' => St.old_arr hw' hAj
      repeat' (first | ((apply T.ev_ (d := 70); exact rfl; apply Ev.cell0 (i := i) (A := x1) (rows := sr); exact rfl; exact rfl; exact hoA; exact hcs; exact rfl)) | ((apply TL.quiet; exact rfl; exact rfl; exact DropA; apply Ev.cell0 (i := i) (A := x1) (rows := sr); exact rfl; exact rfl; exact hoA; exact hcs; exact rfl)) | ((apply TL.quiet; exact rfl; exact rfl; exact DropA; apply Ev.cell0 (i := i) (A := y1) (rows := sr'); exact rfl; exact rfl; exact hoB; exact hcs'; exact rfl)) | ((apply TL.quiet (d := 82); exact rfl; exact rfl; exact DropA; apply Ev.elem (i := j) (A := Ai) (rows := pRows s); exact rfl; exact rfl; exact hoC; exact hrp; exact rfl)) | ((apply TL.quiet (d := 90); exact rfl; exact rfl; exact DropA; apply Ev.elem (i := j) (A := Aj) (rows := pRows s); exact rfl; exact rfl; exact hoD; exact hrp; exact rfl)) | ((apply TL.pure_ (d := 91); exact rfl; exact rfl; apply Ev.pt_neqS (a := p); exact rfl; exact rfl)) | (refine W1 ?_) | (refine W2 (fun hc => ?_) (fun hc => ?_)) | (intro _))
      exact TX.round (j + 1) hlj (show s.length - (j + 1) < s.length - j by omega) SubA (fun w' hw => hw)
    have hck2 : decide ((j : Int) < (s.length : Int)) = false := decide_eq_false (by omega)
    repeat' (first | ((apply T.ev_ (d := 70); exact rfl; apply Ev.cell0 (i := i) (A := x1) (rows := sr); exact rfl; exact rfl; exact hoA; exact hcs; exact rfl)) | (refine W1 ?_) | (refine W2 (fun hc => ?_) (fun hc => ?_)) | (intro _))
    exact TX.round (i + 1) hlt (show d.ss.length - (i + 1) < d.ss.length - i by omega) SubA (fun w' hw => hw)
  have hck : decide ((i : Int) < (d.ss.length : Int)) = false := decide_eq_false (by omega)
  repeat' (first | (refine W1 ?_) | (refine W2 (fun hc => ?_) (fun hc => ?_)) | (intro _))
  refine TC.loopA (ι := Nat) 0 (fun i r => (7, .int .i64 i) :: r) (fun _ => St w [blk b3 (rowD ((y1, y2), (y3, y4)) d) 49, blk b2 (rowD ((x1, x2), (x3, x4)) d) 49]) (fun i => i ≤ d.ls.length) (fun i => d.ls.length - i) KpA SubA (fun w' hw => hw) (Nat.zero_le _) ?_
  intro k hk
  by_cases hlk : k < d.ls.length
  · have hck2 : decide ((k : Int) < (d.ls.length : Int)) = true := decide_eq_true (by omega)
    have hgx : d.ls[k]? = some d.ls[k] := List.getElem?_eq_getElem hlk
    generalize d.ls[k] = l at *
    have hrl := lRows_get hgx
    have hx1 : x3 = some (x3.getD default) := hB.some_ (by omega)
    have hy1 : y3 = some (y3.getD default) := hB'.some_ (by omega)
    repeat' (first | ((apply TL.quiet; exact rfl; exact rfl; exact DropA; apply Ev.elem (i := k) (A := x3) (rows := lRows d.ls); exact rfl; exact rfl; (exact fun w' hw' => St.old_arr hw' hB); exact hrl; exact rfl)) | ((apply TL.quiet; exact rfl; exact rfl; exact DropA; apply Ev.elem (i := k) (A := y3) (rows := lRows d.ls); exact rfl; exact rfl; (exact fun w' hw' => St.old_arr hw' hB'); exact hrl; exact rfl)) | ((apply TL.pure_ (d := 109); exact rfl; exact rfl; apply Ev.lab_neqS (a := l); exact rfl; exact rfl)) | (refine W1 ?_) | (refine W2 (fun hc => ?_) (fun hc => ?_)) | (intro _))
    exact TX.round (k + 1) hlk (show d.ls.length - (k + 1) < d.ls.length - k by omega) SubA (fun w' hw => hw)
  have hck2 : decide ((k : Int) < (d.ls.length : Int)) = false := decide_eq_false (by omega)
  repeat' (first | (refine W1 ?_) | (refine W2 (fun hc => ?_) (fun hc => ?_)) | (intro _))
  exact TX.ret_tmp rfl rfl (fun w' hw => RetV.eq hw rfl)
theorem lsame_any (d : Drw) (p r : Option Addr × Nat) (y : PP) (w : World) (hr : RdD w p r d) (hy : RdT w y d) (n1 : d.ss.length ≤ 1000000000) (n2 : d.ls.length ≤ 1000000000) (hss : ∀ s ∈ d.ss, s.length ≤ 1000 ∧ ∀ q ∈ s, In40 q) (hls : ∀ l ∈ d.ls, In40 l.1) : Calls Tryz.prog 13 #[dVal p r d, dVal y.1 y.2 d] w (RetV w (.bool true)) := by
  refine TC.calls (l := [dVal p r d, dVal y.1 y.2 d]) Tryz.func13 rfl Tryz.ntmps13 rfl (St.start w) ?_
  repeat' (first | (refine W1 ?_) | (refine W2 (fun hc => ?_) (fun hc => ?_)) | (intro _))
  refine T.callR (f := 12) rfl rfl (fun w' hw' => told_any d p r w' (hr.old hw') ⟨n1, n2⟩ hss hls) (fun z _ => ?_)
  repeat' (first | (refine W1 ?_) | (refine W2 (fun hc => ?_) (fun hc => ?_)) | (intro _))
  refine T.callV (f := 37) rfl rfl (fun w' hw' => same31_any d z y w' ⟨St.get_sl hw' AtR, St.get_sl hw' AtR⟩ ⟨St.old_sl RStrI.rd hw' hy.1, St.old_sl RLabI.rd hw' hy.2⟩ n1 n2 (fun s hs => by have := (hss s hs).1; omega)) ?_
  repeat' (first | (refine W1 ?_) | (refine W2 (fun hc => ?_) (fun hc => ?_)) | (intro _))
  exact TX.ret_tmp rfl rfl (fun w' hw => RetV.eq hw rfl)
end Go.Proofs.YtalnmednhhimhaaGreatDoor
