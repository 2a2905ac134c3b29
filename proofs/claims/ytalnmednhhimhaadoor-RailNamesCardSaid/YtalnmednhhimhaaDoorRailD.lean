/-
  The laws own helpers, Show, and the examples, walked.
-/
import Derived.Test.YtalnmednhhimhaaDoorRailC
import Derived.Test.YtalnmednhhimhaaDoorHelp
set_option linter.all false
/- The law's own helpers, walked: whole, point. -/
namespace Go.Sl
open Go Go.Fl
theorem Ev.feql {P : Program} {n : FD} {s : Sg} {M : World → Prop} {ty : TypeId} {x y : Operand} {t u : TypeId} {a b : Nat} {i j : Int} [ht : UD P t (.float .f64)] (hx : ev s x = some (.float .f64 a)) (hy : ev s y = some (.float .f64 b)) (ha : Den a i) (hb : Den b j) : Ev P n s M (.binOp .eql t x y u) ty (.bool (decide (i = j))) := by
  have e : FloatKind.f64.format.order a b = some (compare i j) := order_den ha hb
  have heq : (compare i j = .eq) ↔ i = j := Int.compare_eq_eq
  refine ⟨fun ac w o ho ht' hf hm => ?_⟩
  simp [execOp, ho, hf.ev hx, hf.ev hy, eqGuard, binOp, Op.floatCmp, e]
  by_cases h : i = j
  · rw [heq.2 h]; simp [h]
  · have : ¬ compare i j = .eq := fun hh => h (heq.1 hh)
    cases hc : compare i j <;> simp_all
end Go.Sl
namespace Go.Proofs.YtalnmednhhimhaaDoor
open Go Go.Sl Go.RowKit Go.Bonsai Go.Fl
set_option linter.unusedVariables false
set_option linter.unusedSimpArgs false
theorem denN40 : Den 14010698440749613056 (-1099511627776) := den_of (s := true) (n := 1099511627776) (by decide) (by decide +kernel) rfl (by decide) (by decide)
theorem den40 : Den 4787326403894837248 1099511627776 := den_of (s := false) (n := 1099511627776) (by decide) (by decide +kernel) rfl (by decide) (by decide)
theorem whole_any (a : Nat) (x : Int) (w : World) (hd : Den a x) (h : -1099511627776 ≤ x ∧ x ≤ 1099511627776) : Calls Tryd.prog 47 #[.float .f64 a] w (RetV w (.tuple #[.int .i64 x, .bool true])) := by
  refine TC.calls (l := [.float .f64 a]) Tryd.func47 rfl Tryd.ntmps47 rfl (St.start w) ?_
  have c1 : decide (-1099511627776 ≤ x) = true := decide_eq_true h.1
  have c2 : decide (x ≤ 1099511627776) = true := decide_eq_true h.2
  have c3 : (!decide (x ≤ 1099511627776)) = false := by rw [c2]; rfl
  have hI : I64 x := by unfold I64; omega
  have hdn : Den (FloatKind.f64.nearest x) x := den_nearest (by omega)
  repeat' (first | ((apply T.ev_; exact rfl; exact (Ev.fcmp rfl rfl hd denN40).2.1)) | ((apply T.ev_; exact rfl; exact (Ev.fcmp rfl rfl hd den40).1)) | ((apply T.ev_; exact rfl; exact Ev.conv_fi rfl hd hI)) | ((apply T.ev_; exact rfl; apply Ev.conv_if; exact rfl)) | ((apply T.ev_; exact rfl; exact Ev.feql rfl rfl hdn hd)) | (refine W1 ?_) | (refine W2 (fun hc => ?_) (fun hc => ?_)) | (intro _))
  exact TX.ret_tmp2 rfl rfl rfl (fun w' hw => RetV.eq hw (by simp))
theorem lpoint_any (v : Value) (p : Pt) (w : World) (hc : cPt v p) (h1 : -1099511627776 ≤ p.1 ∧ p.1 ≤ 1099511627776) (h2 : -1099511627776 ≤ p.2 ∧ p.2 ≤ 1099511627776) : Calls Tryd.prog 23 #[v] w (RetV w (.tuple #[.agg #[.int .i64 p.1, .int .i64 p.2], .bool true])) := by
  obtain ⟨a, b, rfl, ha, hb⟩ := hc
  refine TC.calls (l := [.complex .f64 a b]) Tryd.func23 rfl Tryd.ntmps23 rfl (St.start w) ?_
  repeat' (first | ((apply T.ev_; exact rfl; apply Ev.real_; exact rfl)) | ((apply T.ev_; exact rfl; apply Ev.imag_; exact rfl)) | ((apply T.callV (f := 47); exact rfl; exact rfl; (first | exact fun w' _ => whole_any _ _ w' ha h1 | exact fun w' _ => whole_any _ _ w' hb h2))) | (refine W1 ?_) | (refine W2 (fun hc => ?_) (fun hc => ?_)) | (intro _))
  exact TX.ret_gen (rs := [.cell 2 42, .tmp 3]) (vs := [.agg #[.int .i64 p.1, .int .i64 p.2], .bool true]) rfl (.cell rfl (blk_res (cs := [.int .i64 p.1, .int .i64 p.2]) AtA rfl) (.tmp rfl .nil)) (fun w' hw => RetV.eq hw rfl)
end Go.Proofs.YtalnmednhhimhaaDoor
/- The law's own helpers, walked: told. -/
namespace Go.Bonsai
open Go Go.Sl Go.RowKit Go.Fl
def RPi (_ : Nat → Prop) (_ : World) (cs : List Value) (p : Pt) : Prop := cs = [.int .i64 p.1, .int .i64 p.2]
def RStrI (S : Nat → Prop) (w : World) (cs : List Value) (s : List Pt) : Prop := ∃ v, cs = [v] ∧ RSl 2 RPi S w v s
def RLabI (_ : Nat → Prop) (_ : World) (cs : List Value) (l : Pt × ByteArray) : Prop := cs = [.int .i64 l.1.1, .int .i64 l.1.2, .string l.2]
theorem RPi.rd : Rd RPi := ⟨fun _ h => h, fun _ h => h⟩
theorem RLabI.rd : Rd RLabI := ⟨fun _ h => h, fun _ h => h⟩
theorem RStrI.rd : Rd RStrI := ⟨fun h ⟨v, h1, h2⟩ => ⟨v, h1, h2.mono RPi.rd h⟩, fun h ⟨v, h1, h2⟩ => ⟨v, h1, h2.loc RPi.rd h⟩⟩
def pRows (ps : List Pt) : List (List Value) := ps.map fun p => [.int .i64 p.1, .int .i64 p.2]
theorem pRows_all (S : Nat → Prop) (w : World) (ps : List Pt) : All2 (RPi S w) (pRows ps) ps := ⟨by simp [pRows], fun i r p hr hp => by
  unfold pRows at hr
  rw [List.getElem?_map, hp] at hr
  cases hr; rfl⟩
theorem strI_one {S : Nat → Prop} {w : World} {e n c : Nat} {A : Option Addr} {ps : List Pt} (hn : n = ps.length) (h : (own e 2 A n c (pRows ps)).on S w) : (hAll RStrI RStrI.rd [[.slice A n c]] [ps]).on S w :=
  All2.nil.snoc (l := []) (m := []) ⟨_, rfl, A, c, pRows ps, by rw [hn], by rw [← hn]; exact own.arr h, pRows_all S w ps, by rw [← hn]; exact own.cap h⟩
end Go.Bonsai
namespace Go.Proofs.YtalnmednhhimhaaDoor
open Go Go.Sl Go.RowKit Go.Bonsai Go.Fl
set_option linter.unusedVariables false
set_option linter.unusedSimpArgs false
def In40 (p : Pt) : Prop := (-1099511627776 ≤ p.1 ∧ p.1 ≤ 1099511627776) ∧ (-1099511627776 ≤ p.2 ∧ p.2 ≤ 1099511627776)
set_option maxHeartbeats 4000000 in
theorem told_any (d : Drw) (p r : Option Addr × Nat) (w : World) (hr : RdD w p r d) (hn : d.ss.length ≤ 1000000000 ∧ d.ls.length ≤ 1000000000) (hss : ∀ s ∈ d.ss, s.length ≤ 1000 ∧ ∀ q ∈ s, In40 q) (hls : ∀ l ∈ d.ls, In40 l.1) :
    Calls Tryd.prog 10 #[dVal p r d] w (Ret w (fun x : (Option Addr × Nat) × (Option Addr × Nat) => .tuple #[dVal x.1 x.2 d, .bool true]) (fun x => [hSl 1 RStrI RStrI.rd (.slice x.1.1 d.ss.length x.1.2) d.ss, hSl 3 RLabI RLabI.rd (.slice x.2.1 d.ls.length x.2.2) d.ls]) (fun _ => True)) := by
  obtain ⟨h1, h2⟩ := hr
  obtain ⟨A, ca, srows, e1, hA, hs, _⟩ := h1
  obtain ⟨B, cb, lrows, e2, hB, hl, _⟩ := h2
  injection e1 with e1 _ e3
  injection e2 with e4 _ e5
  obtain ⟨p1, p2⟩ := p
  obtain ⟨r1, r2⟩ := r
  simp only at e1 e3 e4 e5
  subst e1; subst e3; subst e4; subst e5
  obtain ⟨hn1, hn2⟩ := hn
  refine TC.calls (l := [dVal (p1, p2) (r1, r2) d]) Tryd.func10 rfl Tryd.ntmps10 rfl (St.start w) ?_
  repeat' (first | (refine W1 ?_) | (refine W2 (fun hc => ?_) (fun hc => ?_)) | (intro _))
  rename_i b1 b2 b4
  refine TC.loopA (ι := (Option Addr × Nat) × Nat × List (List Value)) ((none, 0), 0, []) (fun k r => (5, .int .i64 k.2.1) :: r)
    (fun k => St w [blk b4 [.int .i64 d.w, .int .i64 d.up, .int .i64 d.dn, .slice k.1.1 k.2.1 k.1.2, .slice ((none, 0) : Option Addr × Nat).1 0 ((none, 0) : Option Addr × Nat).2] 37, own 40 1 k.1.1 k.2.1 k.1.2 k.2.2, hAll RStrI RStrI.rd k.2.2 (d.ss.take k.2.1), blk b1 [.int .i64 d.w, .int .i64 d.up, .int .i64 d.dn, .slice p1 d.ss.length p2, .slice r1 d.ls.length r2] 30, blk b2 [.int .i64 0, .int .i64 0, .int .i64 0, .slice none 0 0, .slice none 0 0] 37])
    (fun k => k.2.1 ≤ d.ss.length) (fun k => d.ss.length - k.2.1) KpA SubA (fun w' hw => ?_) (Nat.zero_le _) ?_
  · have g0 : St w (blk b4 [.int .i64 d.w, .int .i64 d.up, .int .i64 d.dn, .slice ((none, 0) : Option Addr × Nat).1 0 ((none, 0) : Option Addr × Nat).2, .slice ((none, 0) : Option Addr × Nat).1 0 ((none, 0) : Option Addr × Nat).2] 37 :: blk b2 [.int .i64 0, .int .i64 0, .int .i64 0, .slice none 0 0, .slice none 0 0] 37 :: blk b1 [.int .i64 d.w, .int .i64 d.up, .int .i64 d.dn, .slice p1 d.ss.length p2, .slice r1 d.ls.length r2] 30 :: []) w' := hw
    have g1 := St.own_nil (e := 40) (sz := 1) (St.push (H := hAll RStrI RStrI.rd [] []) g0 Chg.refl hAll_nil)
    exact St.inc IncQ g1
  rintro ⟨q, i, rows⟩ hi
  simp only at hi ⊢
  by_cases hlt : i < d.ss.length
  · have hck : decide ((i : Int) < (d.ss.length : Int)) = true := by simp [hlt]
    have hgx : d.ss[i]? = some d.ss[i] := List.getElem?_eq_getElem hlt
    have hmem := List.getElem_mem hlt
    have htk : d.ss.take (i + 1) = d.ss.take i ++ [d.ss[i]] := List.take_succ_eq_append_getElem hlt
    generalize d.ss[i] = s at *
    obtain ⟨hsn, hsp⟩ := hss s hmem
    obtain ⟨cs, hcs, _, rfl, Ai, ci, prow, rfl, hAi, hpi, hci⟩ := hs.get hgx
    have hA' : p1 = some (p1.getD default) := hA.some_ (by omega)
    repeat' (first | (refine W1 ?_) | (refine W2 (fun hc => ?_) (fun hc => ?_)) | (intro _))
    refine TC.loopA (ι := (Option Addr × Nat) × Nat) ((none, 0), 0) (fun k r => (7, .int .i64 k.2) :: (6, .slice k.1.1 (s.take k.2).length k.1.2) :: r)
      (fun k => St w [own 42 2 k.1.1 (s.take k.2).length k.1.2 (pRows (s.take k.2)), blk b4 [.int .i64 d.w, .int .i64 d.up, .int .i64 d.dn, .slice q.1 i q.2, .slice ((none, 0) : Option Addr × Nat).1 0 ((none, 0) : Option Addr × Nat).2] 37, own 40 1 q.1 i q.2 rows, hAll RStrI RStrI.rd rows (d.ss.take i), blk b1 [.int .i64 d.w, .int .i64 d.up, .int .i64 d.dn, .slice p1 d.ss.length p2, .slice r1 d.ls.length r2] 30, blk b2 [.int .i64 0, .int .i64 0, .int .i64 0, .slice none 0 0, .slice none 0 0] 37])
      (fun k => k.2 ≤ s.length) (fun k => s.length - k.2) KpA SubA (fun w' hw => St.own_nil (e := 42) (sz := 2) hw) (Nat.zero_le _) ?_
    rintro ⟨y, k⟩ hk
    simp only at hk ⊢
    have hlk : (s.take k).length = k := by rw [List.length_take]; omega
    by_cases hlk2 : k < s.length
    · have hck2 : decide ((k : Int) < (s.length : Int)) = true := by simp [hlk2]
      have hgp : s[k]? = some s[k] := List.getElem?_eq_getElem hlk2
      have hpm := List.getElem_mem hlk2
      have htk2 : s.take (k + 1) = s.take k ++ [s[k]] := List.take_succ_eq_append_getElem hlk2
      generalize s[k] = pt at *
      obtain ⟨cs2, hcs2, pv, rfl, hcp⟩ := hpi.get hgp
      obtain ⟨hq1, hq2⟩ := hsp pt hpm
      have hAi' : Ai = some (Ai.getD default) := hAi.some_ (by omega)
      rw [hlk]
      repeat' (first | ((apply T.callV (f := 23); exact rfl; exact rfl; exact fun w' _ => lpoint_any _ pt w' hcp hq1 hq2)) | (refine W1 ?_) | (refine W2 (fun hc => ?_) (fun hc => ?_)) | (intro _))
      refine T.append (rows := pRows (s.take k)) (news := [[.int .i64 pt.1, .int .i64 pt.2]]) rfl rfl rfl DelA (fun w hw => St.own_arr hw AtA) (fun _ _ r hr => by simp at hr; subst hr; rfl) (by unfold maxLen; omega) (by omega) (fun A4 c4 => ?_)
      repeat' (first | (refine W1 ?_) | (refine W2 (fun hc => ?_) (fun hc => ?_)) | (intro _))
      have hlk1 : (s.take (k + 1)).length = k + 1 := by rw [List.length_take]; omega
      have hpr : pRows (s.take (k + 1)) = pRows (s.take k) ++ [[.int .i64 pt.1, .int .i64 pt.2]] := by rw [htk2]; simp [pRows]
      refine TX.round ((A4, c4), k + 1) hlk2 (show s.length - (k + 1) < s.length - k by omega) (by rw [hlk1]; exact SubA) (fun w' hw => ?_)
      dsimp only
      rw [hlk1, hpr]
      exact St.inc IncQ hw
    have hck2 : decide ((k : Int) < (s.length : Int)) = false := by simp; omega
    obtain rfl : k = s.length := by omega
    rw [List.take_of_length_le (Nat.le_refl _)]
    repeat' (first | (refine W1 ?_) | (refine W2 (fun hc => ?_) (fun hc => ?_)) | (intro _))
    refine T.append (rows := rows) (news := [[.slice y.1 s.length y.2]]) rfl rfl rfl DelA (fun w hw => St.own_arr hw AtA) (fun _ _ r hr => by simp at hr; subst hr; rfl) (by unfold maxLen; omega) (by omega) (fun A4 c4 => ?_)
    repeat' (first | (refine W1 ?_) | (refine W2 (fun hc => ?_) (fun hc => ?_)) | (intro _))
    refine TX.round ((A4, c4), i + 1, rows ++ [[.slice y.1 s.length y.2]]) hlt (show d.ss.length - (i + 1) < d.ss.length - i by omega) SubA (fun w' hw => ?_)
    have g1 := St.del (H := own 42 2 y.1 s.length y.2 (pRows s)) DelA hw
    have g2 := St.weak (H' := hAll RStrI RStrI.rd [[.slice y.1 s.length y.2]] [s]) (fun S w h => strI_one rfl h) g1
    have g3 := St.del (H := hAll RStrI RStrI.rd rows (d.ss.take i)) DelA g2
    have g4 := St.join (K := hAll RStrI RStrI.rd (rows ++ [[.slice y.1 s.length y.2]]) (d.ss.take i ++ [s])) (fun S S' w h h' => hAll_app h h') g3
    dsimp only
    rw [htk]
    exact St.inc IncQ g4
  have hck : decide ((i : Int) < (d.ss.length : Int)) = false := by simp; omega
  obtain rfl : i = d.ss.length := by omega
  rw [List.take_of_length_le (Nat.le_refl _)]
  repeat' (first | (refine W1 ?_) | (refine W2 (fun hc => ?_) (fun hc => ?_)) | (intro _))
  refine TC.loopA (ι := (Option Addr × Nat) × Nat × List (List Value)) ((none, 0), 0, []) (fun k r => (10, .int .i64 k.2.1) :: r)
    (fun k => St w [blk b4 [.int .i64 d.w, .int .i64 d.up, .int .i64 d.dn, .slice q.1 d.ss.length q.2, .slice k.1.1 k.2.1 k.1.2] 37, own 40 1 q.1 d.ss.length q.2 rows, hAll RStrI RStrI.rd rows d.ss, own 44 3 k.1.1 k.2.1 k.1.2 k.2.2, hAll RLabI RLabI.rd k.2.2 (d.ls.take k.2.1), blk b1 [.int .i64 d.w, .int .i64 d.up, .int .i64 d.dn, .slice p1 d.ss.length p2, .slice r1 d.ls.length r2] 30, blk b2 [.int .i64 0, .int .i64 0, .int .i64 0, .slice none 0 0, .slice none 0 0] 37])
    (fun k => k.2.1 ≤ d.ls.length) (fun k => d.ls.length - k.2.1) KpA SubA (fun w' hw => ?_) (Nat.zero_le _) ?_
  · have g0 : St w (blk b4 [.int .i64 d.w, .int .i64 d.up, .int .i64 d.dn, .slice q.1 d.ss.length q.2, .slice ((none, 0) : Option Addr × Nat).1 0 ((none, 0) : Option Addr × Nat).2] 37 :: own 40 1 q.1 d.ss.length q.2 rows :: hAll RStrI RStrI.rd rows d.ss :: blk b1 [.int .i64 d.w, .int .i64 d.up, .int .i64 d.dn, .slice p1 d.ss.length p2, .slice r1 d.ls.length r2] 30 :: blk b2 [.int .i64 0, .int .i64 0, .int .i64 0, .slice none 0 0, .slice none 0 0] 37 :: []) w' := hw
    have g1 := St.own_nil (e := 44) (sz := 3) (St.push (H := hAll RLabI RLabI.rd [] []) g0 Chg.refl hAll_nil)
    exact St.inc IncQ g1
  rintro ⟨z, i, lr⟩ hi2
  simp only at hi2 ⊢
  by_cases hlt2 : i < d.ls.length
  · have hck3 : decide ((i : Int) < (d.ls.length : Int)) = true := by simp [hlt2]
    have hgx : d.ls[i]? = some d.ls[i] := List.getElem?_eq_getElem hlt2
    have hmem := List.getElem_mem hlt2
    have htk : d.ls.take (i + 1) = d.ls.take i ++ [d.ls[i]] := List.take_succ_eq_append_getElem hlt2
    generalize d.ls[i] = l at *
    obtain ⟨hq1, hq2⟩ := hls l hmem
    obtain ⟨cs, hcs, pv, rfl, hcp⟩ := hl.get hgx
    have hB' : r1 = some (r1.getD default) := hB.some_ (by omega)
    repeat' (first | ((apply T.callV (f := 23); exact rfl; exact rfl; exact fun w' _ => lpoint_any _ l.1 w' hcp hq1 hq2)) | ((refine TC.lexT [] (.seg [0, 1, 2, 3, 4, 5, 6, 7, 8, 9, 10, 11, 12, 13] .fin) mixed (by kernel_rfl) (TT.seg rfl ?_))) | (refine W1 ?_) | (refine W2 (fun hc => ?_) (fun hc => ?_)) | (intro _))
    refine TL.loud rfl rfl (Ac.append (rows := lr) (news := [[.int .i64 l.1.1, .int .i64 l.1.2, .string l.2]]) rfl rfl DelA (fun w hw => St.own_arr hw AtA) (fun _ _ r hr => by simp at hr; subst hr; rfl) (by unfold maxLen; omega) (by omega)) (fun p4 => ?_)
    obtain ⟨A4, c4⟩ := p4
    dsimp only
    repeat' (first | ((apply TX.tree)) | ((apply TT.fin)) | (refine W1 ?_) | (refine W2 (fun hc => ?_) (fun hc => ?_)) | (intro _))
    refine TX.round ((A4, c4), i + 1, lr ++ [[.int .i64 l.1.1, .int .i64 l.1.2, .string l.2]]) hlt2 (show d.ls.length - (i + 1) < d.ls.length - i by omega) SubA (fun w' hw => ?_)
    have g1 := St.del (H := hAll RLabI RLabI.rd lr (d.ls.take i)) DelA hw
    have g2 := St.weak (H' := hAll RLabI RLabI.rd (lr ++ [[.int .i64 l.1.1, .int .i64 l.1.2, .string l.2]]) (d.ls.take i ++ [l])) (fun S w h => All2.snoc h (show RLabI S w [.int .i64 l.1.1, .int .i64 l.1.2, .string l.2] l from rfl)) g1
    dsimp only
    rw [htk]
    exact St.inc IncQ g2
  have hck3 : decide ((i : Int) < (d.ls.length : Int)) = false := by simp; omega
  obtain rfl : i = d.ls.length := by omega
  rw [List.take_of_length_le (Nat.le_refl _)]
  repeat' (first | (refine W1 ?_) | (refine W2 (fun hc => ?_) (fun hc => ?_)) | (intro _))
  refine TX.ret_gen (rs := [.cell 2 37, .tmp 3]) (vs := [dVal q z d, .bool true]) rfl (.cell rfl (blk_res (cs := [.int .i64 d.w, .int .i64 d.up, .int .i64 d.dn, .slice q.1 d.ss.length q.2, .slice z.1 d.ls.length z.2]) AtA rfl) (.tmp rfl .nil)) (fun w' hw => ?_)
  have g1 := St.inc (L' := [own 40 1 q.1 d.ss.length q.2 rows, hAll RStrI RStrI.rd rows d.ss, own 44 3 z.1 d.ls.length z.2 lr, hAll RLabI RLabI.rd lr d.ls]) IncQ hw
  have g2 := St.join (K := hSl 1 RStrI RStrI.rd (.slice q.1 d.ss.length q.2) d.ss) (fun S S' w h h' => sl_own rfl h h') g1
  have g3 : St w (own 44 3 z.1 d.ls.length z.2 lr :: hAll RLabI RLabI.rd lr d.ls :: [hSl 1 RStrI RStrI.rd (.slice q.1 d.ss.length q.2) d.ss]) w' := St.inc IncQ g2
  have g4 := St.join (K := hSl 3 RLabI RLabI.rd (.slice z.1 d.ls.length z.2) d.ls) (fun S S' w h h' => sl_own rfl h h') g3
  exact Ret.mk (q, z) trivial (.cons (.there .here) (.cons .here .nil)) g4
end Go.Proofs.YtalnmednhhimhaaDoor
/- rail.Show, walked, by the texts of its numbers. -/
namespace Go.Bonsai
open Go Go.Fl
def ptB (nb : Int → ByteArray) (p : Pt) : ByteArray := nb p.1 ++ (⟨#[44]⟩ : ByteArray) ++ nb p.2
def headS (nb : Int → ByteArray) (d : Drw) : ByteArray := (⟨#[115, 105, 122, 101, 32]⟩ : ByteArray) ++ nb d.w ++ ⟨#[32]⟩ ++ nb d.up ++ ⟨#[32]⟩ ++ nb d.dn ++ ⟨#[10]⟩
def ptsL (nb : Int → ByteArray) (s : List Pt) : List UInt8 := s.flatMap fun p => ((⟨#[32]⟩ : ByteArray) ++ ptB nb p).data.toList
def strokeL (nb : Int → ByteArray) (s : List Pt) : List UInt8 := [115, 116, 114, 111, 107, 101] ++ ptsL nb s ++ [10]
def strokesL (nb : Int → ByteArray) (ss : List (List Pt)) : List UInt8 := ss.flatMap (strokeL nb)
def labelB (nb : Int → ByteArray) (l : Pt × ByteArray) : ByteArray := (⟨#[108, 97, 98, 101, 108, 32]⟩ : ByteArray) ++ ptB nb l.1 ++ ⟨#[32]⟩ ++ l.2 ++ ⟨#[10]⟩
def labelsL (nb : Int → ByteArray) (ls : List (Pt × ByteArray)) : List UInt8 := ls.flatMap fun l => (labelB nb l).data.toList
def showL (nb : Int → ByteArray) (d : Drw) : List UInt8 := (headS nb d).data.toList ++ strokesL nb d.ss ++ labelsL nb d.ls
end Go.Bonsai
namespace Go.Proofs.YtalnmednhhimhaaDoor
open Go Go.Sl Go.RowKit Go.Bonsai Go.Fl Go.Lib
set_option linter.unusedVariables false
set_option linter.unusedSimpArgs false
theorem run_floor {P : Program} {a : Nat} {x : Int} (h : Den a x) (hx : x.natAbs < 2 ^ 53) : ∃ a', Den a' x ∧ ∀ w, (Extern.MathFloor.toIntegral "math.archFloor" .down #[.float .f64 a]).run P w = .ok (.float .f64 a') w := by
  obtain ⟨s, h1, h2, h3, _⟩ := floor_den h hx
  refine ⟨wd s x.natAbs, den_of hx rfl rfl h2 h3, fun w => ?_⟩
  obtain ⟨s', e, hr, _⟩ := h
  have hd : FloatKind.f64.decode a = Ieee.double.read a := rfl
  have he : FloatKind.f64.encode ((Ieee.double.read a).integral .down) = wd s x.natAbs := h1
  rw [hr] at hd
  have e2 : Extern.MathFloor.toIntegral "math.archFloor" .down #[.float .f64 a] = Extern.MathFloor.toIntegral.match_1 (fun _ => Sem Value) (FloatKind.f64.decode a) _ _ := rfl
  rw [e2, hd, ← he, hr]
  rfl
theorem cx_floor (args : Array Value) (w : World) : (callFunc 77 args).run Tryd.prog w = ((Extern.MathFloor.toIntegral "math.archFloor" .down args).run Tryd.prog w).andThen fun v w' => .ok (.value v) w' :=
  run_callFunc_extern Tryd.func77 (by kernel_rfl) (by kernel_rfl) (by kernel_rfl) (by kernel_rfl) args w
theorem floor_any (a : Nat) (x : Int) (w : World) (h : Den a x) (hx : x.natAbs < 2 ^ 53) : ∃ a', Den a' x ∧ ∀ w, Calls Tryd.prog 68 #[.float .f64 a] w (RetV w (.float .f64 a')) := by
  obtain ⟨a', h1, h2⟩ := run_floor (P := Tryd.prog) h hx
  refine ⟨a', h1, fun w => ?_⟩
  refine TC.calls (l := [.float .f64 a]) Tryd.func68 rfl Tryd.ntmps68 rfl (St.start w) ?_
  repeat' (first | ((apply T.ev_; exact rfl; exact Ev.ext_ (vs := [.float .f64 a]) cx_floor rfl h2)) | (refine W1 ?_) | (refine W2 (fun hc => ?_) (fun hc => ?_)) | (intro _))
  exact TX.ret_tmp rfl rfl (fun w' hw => RetV.eq hw rfl)
theorem Ev.fneq {P : Program} {n : FD} {s : Sg} {M : World → Prop} {ty : TypeId} {x y : Operand} {t u : TypeId} {a b : Nat} {i j : Int} [ht : UD P t (.float .f64)] (hx : ev s x = some (.float .f64 a)) (hy : ev s y = some (.float .f64 b)) (ha : Den a i) (hb : Den b j) : Ev P n s M (.binOp .neq t x y u) ty (.bool (!decide (i = j))) := by
  have e : FloatKind.f64.format.order a b = some (compare i j) := order_den ha hb
  have heq : (compare i j = .eq) ↔ i = j := Int.compare_eq_eq
  refine ⟨fun ac w o ho ht' hf hm => ?_⟩
  simp [execOp, ho, hf.ev hx, hf.ev hy, eqGuard, binOp, Op.floatCmp, e]
  by_cases h : i = j
  · rw [heq.2 h]; simp [h]
  · have : ¬ compare i j = .eq := fun hh => h (heq.1 hh)
    cases hc : compare i j <;> simp_all
theorem isNaN_any (a : Nat) (x : Int) (w : World) (h : Den a x) : Calls Tryd.prog 69 #[.float .f64 a] w (RetV w (.bool false)) := by
  refine TC.calls (l := [.float .f64 a]) Tryd.func69 rfl Tryd.ntmps69 rfl (St.start w) ?_
  repeat' (first | ((apply T.ev_; exact rfl; exact Ev.fneq rfl rfl h h)) | (refine W1 ?_) | (refine W2 (fun hc => ?_) (fun hc => ?_)) | (intro _))
  exact TX.ret_tmp rfl rfl (fun w' hw => RetV.eq hw (by simp))
theorem order_big {a b : Nat} {x : Int} {t : Bool} {y : Int} (ha : Den a x) (hb : Ieee.double.read b = .number t y.natAbs 1) (h1 : y < 0 → t = true) (h2 : 0 < y → t = false) : Ieee.double.order a b = some (compare x (2 * y)) := by
  obtain ⟨s, i, ra, s1, s2⟩ := ha
  unfold Ieee.Format.order
  rw [ra, hb]
  unfold Ieee.Datum.order
  have hm : min (-(i : Int)) 1 = -(i : Int) := by omega
  have e1 : (-(i : Int) - -(i : Int)).toNat = 0 := by omega
  have e2 : ((1 : Int) - -(i : Int)).toNat = i + 1 := by omega
  have e3 := signed_den (s := t) (x := y) (e := 0) (up := i + 1) h1 h2
  rw [Nat.pow_zero, Nat.mul_one] at e3
  simp only [hm, e1, e2, signed_den s1 s2, e3]
  rw [Nat.add_zero, Nat.zero_add]
  have hp := pow_pos_int i
  have e4 : y * 2 ^ (i + 1) = 2 * y * 2 ^ i := by rw [Int.pow_succ, Int.mul_comm (2 ^ i) 2, ← Int.mul_assoc, Int.mul_comm y 2]
  rw [e4]
  congr 1
  show (if _ then _ else if _ then _ else _) = (if _ then _ else if _ then _ else _)
  have hlt : x * 2 ^ i < 2 * y * 2 ^ i ↔ x < 2 * y := ⟨fun h => Int.lt_of_mul_lt_mul_right h (Int.le_of_lt hp), fun h => Int.mul_lt_mul_of_pos_right h hp⟩
  have heq : x * 2 ^ i = 2 * y * 2 ^ i ↔ x = 2 * y := ⟨fun h => Int.eq_of_mul_eq_mul_right (by omega) h, fun h => by rw [h]⟩
  simp only [hlt, heq]
theorem Ev.fcmpO {P : Program} {n : FD} {s : Sg} {M : World → Prop} {ty : TypeId} {x y : Operand} {t u : TypeId} {a b : Nat} {i j : Int} (hx : ev s x = some (.float .f64 a)) (hy : ev s y = some (.float .f64 b)) (e : FloatKind.f64.format.order a b = some (compare i j)) :
    Ev P n s M (.binOp .gtr t x y u) ty (.bool (decide (j < i))) ∧ Ev P n s M (.binOp .lss t x y u) ty (.bool (decide (i < j))) := by
  have hlt : (compare i j = .lt) ↔ i < j := Int.compare_eq_lt
  have heq : (compare i j = .eq) ↔ i = j := Int.compare_eq_eq
  have hgt : (compare i j = .gt) ↔ j < i := Int.compare_eq_gt
  refine ⟨⟨fun ac w o ho ht' hf hm => ?_⟩, ⟨fun ac w o ho ht' hf hm => ?_⟩⟩ <;>
    (simp [execOp, ho, hf.ev hx, hf.ev hy, eqGuard, binOp, Op.floatCmp, e]) <;>
    (rcases Int.lt_trichotomy i j with h | h | h
     · rw [hlt.2 h]; simp; try omega
     · rw [heq.2 h]; simp; try omega
     · rw [hgt.2 h]; simp; try omega)
theorem order53 {a : Nat} {x : Int} (h : Den a x) : FloatKind.f64.format.order a 4845873199050653696 = some (compare x 9007199254740992) := order_big (y := 4503599627370496) (t := false) h (by decide +kernel) (by decide) (by decide)
theorem orderN53 {a : Nat} {x : Int} (h : Den a x) : FloatKind.f64.format.order a 14069245235905429504 = some (compare x (-9007199254740992)) := by
  have h1 := order_big (b := 14069245235905429504) (y := -4503599627370496) (t := true) h (by decide +kernel) (by decide) (by decide)
  rw [show (2 : Int) * -4503599627370496 = -9007199254740992 by decide] at h1
  exact h1
theorem rwhole_any (a : Nat) (x : Int) (w : World) (h : Den a x) (hx : x.natAbs < 2 ^ 53) : Calls Tryd.prog 53 #[.float .f64 a] w (RetV w (.int .i64 x)) := by
  obtain ⟨a', h1, h2⟩ := floor_any a x w h hx
  refine TC.calls (l := [.float .f64 a]) Tryd.func53 rfl Tryd.ntmps53 rfl (St.start w) ?_
  have hI : I64 x := by unfold I64; omega
  have c1 : decide (9007199254740992 < x) = false := decide_eq_false (by omega)
  have c2 : decide (x < -9007199254740992) = false := decide_eq_false (by omega)
  repeat' (first | ((apply T.callV (f := 68); exact rfl; exact rfl; exact fun w' _ => h2 w')) | ((apply T.callV (f := 69); exact rfl; exact rfl; exact fun w' _ => isNaN_any a' x w' h1)) | ((apply T.ev_; exact rfl; exact (Ev.fcmpO rfl rfl (order53 h1)).1)) | ((apply T.ev_; exact rfl; exact (Ev.fcmpO rfl rfl (orderN53 h1)).2)) | ((apply T.ev_; exact rfl; exact Ev.conv_fi rfl h1 hI)) | (refine W1 ?_) | (refine W2 (fun hc => ?_) (fun hc => ?_)) | (intro _))
  exact TX.ret_tmp rfl rfl (fun w' hw => RetV.eq hw rfl)
theorem rshow_any (nb : Int → ByteArray) (v : Value) (p : Pt) (w : World) (hc : cPt v p) (h1 : p.1.natAbs < 2 ^ 53) (h2 : p.2.natAbs < 2 ^ 53) (hn1 : ∀ w, Calls Tryd.prog 29 #[.int .i64 p.1] w (RetV w (.string (nb p.1)))) (hn2 : ∀ w, Calls Tryd.prog 29 #[.int .i64 p.2] w (RetV w (.string (nb p.2)))) (hs1 : (nb p.1).size ≤ 1000) (hs2 : (nb p.2).size ≤ 1000) :
    Calls Tryd.prog 30 #[v] w (RetV w (.string (ptB nb p))) := by
  obtain ⟨a, b, rfl, ha, hb⟩ := hc
  refine TC.calls (l := [.complex .f64 a b]) Tryd.func30 rfl Tryd.ntmps30 rfl (St.start w) ?_
  obtain ⟨s1, e1⟩ : ∃ s1, nb p.1 ++ (⟨#[44]⟩ : ByteArray) = s1 := ⟨_, rfl⟩
  obtain ⟨s2, e2⟩ : ∃ s2, s1 ++ nb p.2 = s2 := ⟨_, rfl⟩
  have ec : (⟨#[44]⟩ : ByteArray).size = 1 := rfl
  have hz1 : s1.size = (nb p.1).size + 1 := by rw [← e1, ByteArray.size_append, ec]
  have er : ptB nb p = s2 := by unfold ptB; rw [e1, e2]
  rw [er]
  generalize nb p.1 = n1 at *
  generalize nb p.2 = n2 at *
  repeat' (first | ((apply T.ev_; exact rfl; apply Ev.real_; exact rfl)) | ((apply T.ev_; exact rfl; apply Ev.imag_; exact rfl)) | ((apply T.callV (d := 5) (f := 53); exact rfl; exact rfl; exact fun w' _ => rwhole_any a p.1 w' ha h1)) | ((apply T.callV (d := 10) (f := 53); exact rfl; exact rfl; exact fun w' _ => rwhole_any b p.2 w' hb h2)) | ((apply T.callV (d := 6) (f := 29); exact rfl; exact rfl; exact fun w' _ => hn1 w')) | ((apply T.callV (d := 11) (f := 29); exact rfl; exact rfl; exact fun w' _ => hn2 w')) | ((apply T.ev_; exact rfl; apply Ev.str_addE e1; exact rfl; exact rfl; omega)) | ((apply T.ev_; exact rfl; apply Ev.str_addE e2; exact rfl; exact rfl; omega)) | (refine W1 ?_) | (refine W2 (fun hc => ?_) (fun hc => ?_)) | (intro _))
  exact TX.ret_tmp rfl rfl (fun w' hw => RetV.eq hw rfl)
end Go.Proofs.YtalnmednhhimhaaDoor
/- rail.Show, walked, by the texts of its numbers: the whole. -/
namespace Go.Bonsai
open Go Go.Fl
theorem flatMap_take_le {α : Type} (f : α → List UInt8) (l : List α) (i : Nat) : ((l.take i).flatMap f).length ≤ (l.flatMap f).length := by
  have : l.flatMap f = (l.take i).flatMap f ++ (l.drop i).flatMap f := by rw [← List.flatMap_append, List.take_append_drop]
  rw [this, List.length_append]
  omega
theorem flatMap_snoc {α : Type} (f : α → List UInt8) (l : List α) (x : α) : (l ++ [x]).flatMap f = l.flatMap f ++ f x := by simp
theorem bytes_len (s : ByteArray) : s.data.toList.length = s.size := by rw [Array.length_toList]; rfl
end Go.Bonsai
namespace Go.Proofs.YtalnmednhhimhaaDoor
open Go Go.Sl Go.RowKit Go.Bonsai Go.Fl Go.Lib
set_option linter.unusedVariables false
set_option linter.unusedSimpArgs false
/-- a number's text -/
def NumT (nb : Int → ByteArray) (x : Int) : Prop := (nb x).size ≤ 40 ∧ ∀ w, Calls Tryd.prog 29 #[.int .i64 x] w (RetV w (.string (nb x)))
def PtT (nb : Int → ByteArray) (p : Pt) : Prop := (p.1.natAbs < 2 ^ 53 ∧ p.2.natAbs < 2 ^ 53) ∧ NumT nb p.1 ∧ NumT nb p.2
/-- what Show asks of a drawing -/
structure ShowOk (nb : Int → ByteArray) (d : Drw) : Prop where
  w : NumT nb d.w
  up : NumT nb d.up
  dn : NumT nb d.dn
  ss : ∀ s ∈ d.ss, s.length ≤ 1000000 ∧ ∀ p ∈ s, PtT nb p
  ls : ∀ l ∈ d.ls, PtT nb l.1 ∧ l.2.size ≤ 100000000
  n1 : d.ss.length ≤ 1000000000
  n2 : d.ls.length ≤ 1000000000
  len : (showL nb d).length ≤ 900000000
theorem ptB_size {nb : Int → ByteArray} {p : Pt} (h : PtT nb p) : (ptB nb p).size ≤ 81 := by
  have h1 := h.2.1.1
  have h2 := h.2.2.1
  have ec : (⟨#[44]⟩ : ByteArray).size = 1 := rfl
  unfold ptB
  rw [ByteArray.size_append, ByteArray.size_append, ec]
  omega
abbrev shP (w0 : World) (b : Nat) (x : Option Addr × Nat) (l : List UInt8) (L : List HP) : World → Prop := St w0 (bBlk b (sf b) x l.length :: bOwn x l.length l :: L)
set_option maxHeartbeats 4000000 in
set_option maxRecDepth 20000 in
theorem show_draw (nb : Int → ByteArray) (d : Drw) (p r : Option Addr × Nat) (w : World) (hr : RdD w p r d) (h : ShowOk nb d) : Calls Tryd.prog 19 #[dVal p r d] w (RetV w (.string ⟨(showL nb d).toArray⟩)) := by
  obtain ⟨h1, h2⟩ := hr
  obtain ⟨A, ca, srows, e1, hA, hs, _⟩ := h1
  obtain ⟨B, cb, lrows, e2, hB, hl, _⟩ := h2
  injection e1 with e1 _ e3
  injection e2 with e4 _ e5
  obtain ⟨p1, p2⟩ := p
  obtain ⟨r1, r2⟩ := r
  simp only at e1 e3 e4 e5
  subst e1; subst e3; subst e4; subst e5
  have hn1 := h.n1
  have hn2 := h.n2
  have hlen := h.len
  have hss := h.ss
  have hls := h.ls
  refine TC.calls (l := [dVal (p1, p2) (r1, r2) d]) Tryd.func19 rfl Tryd.ntmps19 rfl (St.start w) ?_
  obtain ⟨hw1, hw2⟩ := h.w
  obtain ⟨hu1, hu2⟩ := h.up
  obtain ⟨hd1, hd2⟩ := h.dn
  unfold showL at hlen ⊢
  have eH : ∃ hh : ByteArray, hh = headS nb d ∧ hh.size ≤ 200 ∧ ∃ a1 a2 a3 a4 a5 : ByteArray, (⟨#[115, 105, 122, 101, 32]⟩ : ByteArray) ++ nb d.w = a1 ∧ a1 ++ (⟨#[32]⟩ : ByteArray) = a2 ∧ a2 ++ nb d.up = a3 ∧ a3 ++ (⟨#[32]⟩ : ByteArray) = a4 ∧ a4 ++ nb d.dn = a5 ∧ a5 ++ (⟨#[10]⟩ : ByteArray) = hh ∧ a1.size ≤ 200 ∧ a2.size ≤ 200 ∧ a3.size ≤ 200 ∧ a4.size ≤ 200 ∧ a5.size ≤ 200 := by
    have c1 : (⟨#[115, 105, 122, 101, 32]⟩ : ByteArray).size = 5 := rfl
    have c2 : (⟨#[32]⟩ : ByteArray).size = 1 := rfl
    have c3 : (⟨#[10]⟩ : ByteArray).size = 1 := rfl
    refine ⟨_, rfl, ?_, _, _, _, _, _, rfl, rfl, rfl, rfl, rfl, rfl, ?_, ?_, ?_, ?_, ?_⟩
    · unfold headS
      simp only [ByteArray.size_append, c1, c2, c3]
      omega
    all_goals
      simp only [ByteArray.size_append, c1, c2, c3]
      omega
  obtain ⟨hh, ehh, hhz, a1, a2, a3, a4, a5, q1, q2, q3, q4, q5, q6, z1, z2, z3, z4, z5⟩ := eH
  rw [← ehh] at hlen ⊢
  have c1 : (⟨#[115, 105, 122, 101, 32]⟩ : ByteArray).size = 5 := rfl
  have c2 : (⟨#[32]⟩ : ByteArray).size = 1 := rfl
  have c3 : (⟨#[10]⟩ : ByteArray).size = 1 := rfl
  have hhl := bytes_len hh
  generalize nb d.w = nw at *
  generalize nb d.up = nu at *
  generalize nb d.dn = nd at *
  clear ehh
  repeat' (first | ((refine TC.lexT [(15, .loud)] (.seg [0, 1, 5, 6, 10, 11, 2, 3, 4, 7, 8, 9, 12, 13, 14, 15] .fin) mixed (by kernel_rfl) (TT.seg rfl ?_))) | ((apply TL.kcallV (d := 12) (f := 29); exact rfl; (intro w' _; exact hw2 w'); exact rfl; exact rfl; exact DropA)) | ((apply TL.kcallV (d := 17) (f := 29); exact rfl; (intro w' _; exact hu2 w'); exact rfl; exact rfl; exact DropA)) | ((apply TL.kcallV (d := 22) (f := 29); exact rfl; (intro w' _; exact hd2 w'); exact rfl; exact rfl; exact DropA)) | ((apply TL.pure_ (d := 13); exact rfl; exact rfl; apply Ev.str_addE q1; exact rfl; exact rfl; omega)) | ((apply TL.pure_ (d := 14); exact rfl; exact rfl; apply Ev.str_addE q2; exact rfl; exact rfl; omega)) | ((apply TL.pure_ (d := 18); exact rfl; exact rfl; apply Ev.str_addE q3; exact rfl; exact rfl; omega)) | ((apply TL.pure_ (d := 19); exact rfl; exact rfl; apply Ev.str_addE q4; exact rfl; exact rfl; omega)) | ((apply TL.pure_ (d := 23); exact rfl; exact rfl; apply Ev.str_addE q5; exact rfl; exact rfl; omega)) | ((apply TL.pure_ (d := 24); exact rfl; exact rfl; apply Ev.str_addE q6; exact rfl; exact rfl; omega)) | (refine W1 ?_) | (refine W2 (fun hc => ?_) (fun hc => ?_)) | (intro _))
  rename_i b1 b
  refine TL.lcall rfl rfl (Cl.callM (f := 28) (val := fun _ : Option Addr × Nat => .tuple #[.int .i64 (hh.size : Int), .nilIface]) rfl (fun w' hw' => writeString_any (L0 := [blk b1 [.int .i64 d.w, .int .i64 d.up, .int .i64 d.dn, .slice p1 d.ss.length p2, .slice r1 d.ls.length r2] 30]) b none (none, 0) [] hh w' (.inl rfl) (by simp) (by omega) (by
    have g0 : St w (bBlk b none (none, 0) 0 :: blk b1 [.int .i64 d.w, .int .i64 d.up, .int .i64 d.dn, .slice p1 d.ss.length p2, .slice r1 d.ls.length r2] 30 :: []) w' := hw'
    exact St.inc (L' := [bBlk b none (none, 0) 0, bOwn (none, 0) 0 [], blk b1 [.int .i64 d.w, .int .i64 d.up, .int .i64 d.dn, .slice p1 d.ss.length p2, .slice r1 d.ls.length r2] 30]) IncQ (St.own_nil (e := 5) (sz := 1) g0)))) (fun x0 => ?_)
  rw [List.nil_append]
  generalize hhg : hh.data.toList = HL at *
  have tS := fun i => flatMap_take_le (strokeL nb) d.ss i
  have tL := fun i => flatMap_take_le (fun l => (labelB nb l).data.toList) d.ls i
  rw [List.length_append, List.length_append] at hlen
  unfold strokesL labelsL at hlen ⊢
  repeat' (first | ((apply TX.tree)) | ((apply TT.fin)) | (refine W1 ?_) | (refine W2 (fun hc => ?_) (fun hc => ?_)) | (intro _))
  refine TC.loopA (ι := (Option Addr × Nat) × Nat) (x0, 0) (fun k r => (29, .int .i64 k.2) :: r)
    (fun k => St w [bBlk b (sf b) k.1 (HL ++ (d.ss.take k.2).flatMap (strokeL nb)).length, bOwn k.1 (HL ++ (d.ss.take k.2).flatMap (strokeL nb)).length (HL ++ (d.ss.take k.2).flatMap (strokeL nb)), blk b1 [.int .i64 d.w, .int .i64 d.up, .int .i64 d.dn, .slice p1 d.ss.length p2, .slice r1 d.ls.length r2] 30])
    (fun k => k.2 ≤ d.ss.length) (fun k => d.ss.length - k.2) KpA SubA (fun w' hw => ?_) (Nat.zero_le _) ?_
  · rw [List.take_zero, List.flatMap_nil, List.append_nil]
    exact hw
  · rintro ⟨x, i⟩ hi
    simp only at hi ⊢
    by_cases hlt : i < d.ss.length
    · have hck : decide ((i : Int) < (d.ss.length : Int)) = true := decide_eq_true (by omega)
      have hgx : d.ss[i]? = some d.ss[i] := List.getElem?_eq_getElem hlt
      have hmem := List.getElem_mem hlt
      have htk : d.ss.take (i + 1) = d.ss.take i ++ [d.ss[i]] := List.take_succ_eq_append_getElem hlt
      have hb1 := tS (i + 1)
      generalize d.ss[i] = s at *
      obtain ⟨hsn, hsp⟩ := hss s hmem
      obtain ⟨cs, hcs, _, rfl, Ai, ci, prow, rfl, hAi, hpi, hci⟩ := hs.get hgx
      have hA' : p1 = some (p1.getD default) := hA.some_ (by omega)
      rw [htk, flatMap_snoc, List.length_append] at hb1
      have hsl : (strokeL nb s).length = 6 + (ptsL nb s).length + 1 := by unfold strokeL; rw [List.length_append, List.length_append]; rfl
      have tP := fun j => flatMap_take_le (fun p => ((⟨#[32]⟩ : ByteArray) ++ ptB nb p).data.toList) s j
      generalize hO : HL ++ (d.ss.take i).flatMap (strokeL nb) = O at *
      have hOl : O.length = HL.length + ((d.ss.take i).flatMap (strokeL nb)).length := by rw [← hO, List.length_append]
      repeat' (first | (refine W1 ?_) | (refine W2 (fun hc => ?_) (fun hc => ?_)) | (intro _))
      refine T.callM (f := 28) (val := fun _ : Option Addr × Nat => .tuple #[.int .i64 ((⟨#[115, 116, 114, 111, 107, 101]⟩ : ByteArray).size : Int), .nilIface]) rfl rfl (fun w' hw' => writeString_any (L0 := [blk b1 [.int .i64 d.w, .int .i64 d.up, .int .i64 d.dn, .slice p1 d.ss.length p2, .slice r1 d.ls.length r2] 30]) b (sf b) x O ⟨#[115, 116, 114, 111, 107, 101]⟩ w' (.inr rfl) (by omega) (by decide) hw') (fun x1 => ?_)
      repeat' (first | (refine W1 ?_) | (refine W2 (fun hc => ?_) (fun hc => ?_)) | (intro _))
      refine TC.loopA (ι := (Option Addr × Nat) × Nat) (x1, 0) (fun k r => (36, .int .i64 k.2) :: r)
        (fun k => St w [bBlk b (sf b) k.1 (O ++ [115, 116, 114, 111, 107, 101] ++ ptsL nb (s.take k.2)).length, bOwn k.1 (O ++ [115, 116, 114, 111, 107, 101] ++ ptsL nb (s.take k.2)).length (O ++ [115, 116, 114, 111, 107, 101] ++ ptsL nb (s.take k.2)), blk b1 [.int .i64 d.w, .int .i64 d.up, .int .i64 d.dn, .slice p1 d.ss.length p2, .slice r1 d.ls.length r2] 30])
        (fun k => k.2 ≤ s.length) (fun k => s.length - k.2) KpA SubA (fun w' hw => ?_) (Nat.zero_le _) ?_
      · rw [List.take_zero]
        unfold ptsL
        rw [List.flatMap_nil, List.append_nil]
        exact hw
      · rintro ⟨y, j⟩ hj
        simp only at hj ⊢
        have tPj : (ptsL nb (s.take j)).length ≤ (ptsL nb s).length := tP j
        by_cases hlj : j < s.length
        · have hck2 : decide ((j : Int) < (s.length : Int)) = true := decide_eq_true (by omega)
          have hgp : s[j]? = some s[j] := List.getElem?_eq_getElem hlj
          have hpm := List.getElem_mem hlj
          have htk2 : s.take (j + 1) = s.take j ++ [s[j]] := List.take_succ_eq_append_getElem hlj
          generalize s[j] = pt at *
          obtain ⟨cs2, hcs2, pv, rfl, hcp⟩ := hpi.get hgp
          have hpt := hsp pt hpm
          have hAi' : Ai = some (Ai.getD default) := hAi.some_ (by omega)
          obtain ⟨tt, htt⟩ : ∃ tt, (⟨#[32]⟩ : ByteArray) ++ ptB nb pt = tt := ⟨_, rfl⟩
          have htz := ptB_size hpt
          have htz2 : tt.size ≤ 82 := by rw [← htt, ByteArray.size_append, c2]; omega
          have hsh := fun w' => rshow_any nb pv pt w' hcp hpt.1.1 hpt.1.2 hpt.2.1.2 hpt.2.2.2 (by have := hpt.2.1.1; omega) (by have := hpt.2.2.1; omega)
          have hnx : ptsL nb (s.take (j + 1)) = ptsL nb (s.take j) ++ tt.data.toList := by unfold ptsL; rw [htk2, flatMap_snoc, htt]
          generalize ptB nb pt = pb at *
          repeat' (first | ((apply T.callV (f := 30); exact rfl; exact rfl; exact fun w' _ => hsh w')) | ((apply T.ev_; exact rfl; apply Ev.str_addE htt; exact rfl; exact rfl; omega)) | (refine W1 ?_) | (refine W2 (fun hc => ?_) (fun hc => ?_)) | (intro _))
          refine T.callM (f := 28) (val := fun _ : Option Addr × Nat => .tuple #[.int .i64 (tt.size : Int), .nilIface]) rfl rfl (fun w' hw' => writeString_any (L0 := [blk b1 [.int .i64 d.w, .int .i64 d.up, .int .i64 d.dn, .slice p1 d.ss.length p2, .slice r1 d.ls.length r2] 30]) b (sf b) y (O ++ [115, 116, 114, 111, 107, 101] ++ ptsL nb (s.take j)) tt w' (.inr rfl) (by rw [List.length_append, List.length_append]; simp only [List.length_cons, List.length_nil]; omega) (by omega) hw') (fun y1 => ?_)
          repeat' (first | (refine W1 ?_) | (refine W2 (fun hc => ?_) (fun hc => ?_)) | (intro _))
          refine TX.round (y1, j + 1) hlj (show s.length - (j + 1) < s.length - j by omega) SubA (fun w' hw => ?_)
          rw [hnx, ← List.append_assoc]
          exact hw
        have hck2 : decide ((j : Int) < (s.length : Int)) = false := decide_eq_false (by omega)
        obtain rfl : j = s.length := by omega
        rw [List.take_of_length_le (Nat.le_refl _)]
        repeat' (first | (refine W1 ?_) | (refine W2 (fun hc => ?_) (fun hc => ?_)) | (intro _))
        refine T.callM (f := 28) (val := fun _ : Option Addr × Nat => .tuple #[.int .i64 ((⟨#[10]⟩ : ByteArray).size : Int), .nilIface]) rfl rfl (fun w' hw' => writeString_any (L0 := [blk b1 [.int .i64 d.w, .int .i64 d.up, .int .i64 d.dn, .slice p1 d.ss.length p2, .slice r1 d.ls.length r2] 30]) b (sf b) y (O ++ [115, 116, 114, 111, 107, 101] ++ ptsL nb s) ⟨#[10]⟩ w' (.inr rfl) (by rw [List.length_append, List.length_append]; simp only [List.length_cons, List.length_nil]; omega) (by decide) hw') (fun y2 => ?_)
        repeat' (first | (refine W1 ?_) | (refine W2 (fun hc => ?_) (fun hc => ?_)) | (intro _))
        refine TX.round (y2, i + 1) hlt (show d.ss.length - (i + 1) < d.ss.length - i by omega) SubA (fun w' hw => ?_)
        have he : HL ++ (d.ss.take (i + 1)).flatMap (strokeL nb) = O ++ [115, 116, 114, 111, 107, 101] ++ ptsL nb s ++ (⟨#[10]⟩ : ByteArray).data.toList := by
          rw [htk, flatMap_snoc, ← List.append_assoc, hO]
          unfold strokeL
          simp only [List.append_assoc]
        rw [he]
        exact hw
    have hck : decide ((i : Int) < (d.ss.length : Int)) = false := decide_eq_false (by omega)
    obtain rfl : i = d.ss.length := by omega
    rw [List.take_of_length_le (Nat.le_refl _)]
    generalize hO : HL ++ d.ss.flatMap (strokeL nb) = O at *
    have hOl : O.length = HL.length + (d.ss.flatMap (strokeL nb)).length := by rw [← hO, List.length_append]
    repeat' (first | (refine W1 ?_) | (refine W2 (fun hc => ?_) (fun hc => ?_)) | (intro _))
    refine TC.loopA (ι := (Option Addr × Nat) × Nat) (x, 0) (fun k r => (50, .int .i64 k.2) :: r)
      (fun k => St w [bBlk b (sf b) k.1 (O ++ (d.ls.take k.2).flatMap (fun l => (labelB nb l).data.toList)).length, bOwn k.1 (O ++ (d.ls.take k.2).flatMap (fun l => (labelB nb l).data.toList)).length (O ++ (d.ls.take k.2).flatMap (fun l => (labelB nb l).data.toList)), blk b1 [.int .i64 d.w, .int .i64 d.up, .int .i64 d.dn, .slice p1 d.ss.length p2, .slice r1 d.ls.length r2] 30])
      (fun k => k.2 ≤ d.ls.length) (fun k => d.ls.length - k.2) KpA SubA (fun w' hw => ?_) (Nat.zero_le _) ?_
    · rw [List.take_zero, List.flatMap_nil, List.append_nil]
      exact hw
    · rintro ⟨x, i⟩ hi2
      simp only at hi2 ⊢
      by_cases hlt2 : i < d.ls.length
      · have hck2 : decide ((i : Int) < (d.ls.length : Int)) = true := decide_eq_true (by omega)
        have hgx : d.ls[i]? = some d.ls[i] := List.getElem?_eq_getElem hlt2
        have hmem := List.getElem_mem hlt2
        have htk : d.ls.take (i + 1) = d.ls.take i ++ [d.ls[i]] := List.take_succ_eq_append_getElem hlt2
        have hb1 := tL (i + 1)
        generalize d.ls[i] = lb at *
        obtain ⟨hpt, hts⟩ := hls lb hmem
        obtain ⟨cs, hcs, pv, rfl, za, zb, rfl, hza, hzb⟩ := hl.get hgx
        have hB' : r1 = some (r1.getD default) := hB.some_ (by omega)
        rw [htk, flatMap_snoc, List.length_append] at hb1
        have c4 : (⟨#[108, 97, 98, 101, 108, 32]⟩ : ByteArray).size = 6 := rfl
        have htz := ptB_size hpt
        have hsh := fun w' => rshow_any nb (.complex .f64 za zb) lb.1 w' ⟨za, zb, rfl, hza, hzb⟩ hpt.1.1 hpt.1.2 hpt.2.1.2 hpt.2.2.2 (by have := hpt.2.1.1; omega) (by have := hpt.2.2.1; omega)
        obtain ⟨u1, v1⟩ : ∃ u1, (⟨#[108, 97, 98, 101, 108, 32]⟩ : ByteArray) ++ ptB nb lb.1 = u1 := ⟨_, rfl⟩
        obtain ⟨u2, v2⟩ : ∃ u2, u1 ++ (⟨#[32]⟩ : ByteArray) = u2 := ⟨_, rfl⟩
        obtain ⟨u3, v3⟩ : ∃ u3, u2 ++ lb.2 = u3 := ⟨_, rfl⟩
        obtain ⟨u4, v4⟩ : ∃ u4, u3 ++ (⟨#[10]⟩ : ByteArray) = u4 := ⟨_, rfl⟩
        have y1 : u1.size ≤ 87 := by rw [← v1, ByteArray.size_append, c4]; omega
        have y2 : u2.size ≤ 88 := by rw [← v2, ByteArray.size_append, c2]; omega
        have y3 : u3.size ≤ 100000088 := by rw [← v3, ByteArray.size_append]; omega
        have y4 : u4.size ≤ 100000089 := by rw [← v4, ByteArray.size_append, c3]; omega
        have hlab : labelB nb lb = u4 := by unfold labelB; rw [v1, v2, v3, v4]
        rw [hlab] at hb1
        have hul := bytes_len u4
        generalize ptB nb lb.1 = pb at *
        generalize hO2 : O ++ (d.ls.take i).flatMap (fun l => (labelB nb l).data.toList) = O2 at *
        have hO2l : O2.length = O.length + ((d.ls.take i).flatMap (fun l => (labelB nb l).data.toList)).length := by rw [← hO2, List.length_append]
        repeat' (first | ((apply T.ev_; exact rfl; apply Ev.elem (i := i); exact rfl; exact rfl; (exact fun w' hw' => St.old_arr hw' hB); exact hcs; exact rfl)) | ((refine TC.lexT [(9, .loud)] (.seg [0, 1, 5, 6, 2, 3, 4, 7, 8, 9] .fin) mixed (by kernel_rfl) (TT.seg rfl ?_))) | ((apply TL.kcallV (d := 56) (f := 30); exact rfl; (intro w' _; exact hsh w'); exact rfl; exact rfl; exact DropA)) | ((apply TL.pure_ (d := 57); exact rfl; exact rfl; apply Ev.str_addE v1; exact rfl; exact rfl; omega)) | ((apply TL.pure_ (d := 58); exact rfl; exact rfl; apply Ev.str_addE v2; exact rfl; exact rfl; omega)) | ((apply TL.pure_ (d := 61); exact rfl; exact rfl; apply Ev.str_addE v3; exact rfl; exact rfl; omega)) | ((apply TL.pure_ (d := 62); exact rfl; exact rfl; apply Ev.str_addE v4; exact rfl; exact rfl; omega)) | (refine W1 ?_) | (refine W2 (fun hc => ?_) (fun hc => ?_)) | (intro _))
        rename_i b9
        refine TL.lcall rfl rfl (Cl.callM (f := 28) (val := fun _ : Option Addr × Nat => .tuple #[.int .i64 (u4.size : Int), .nilIface]) rfl (fun w' hw' => writeString_any (L0 := [blk b1 [.int .i64 d.w, .int .i64 d.up, .int .i64 d.dn, .slice p1 d.ss.length p2, .slice r1 d.ls.length r2] 30, blk b9 [.complex .f64 za zb, .string lb.2] 58]) b (sf b) x O2 u4 w' (.inr rfl) (by omega) (by omega) (by
          have g0 : St w (blk b9 [.complex .f64 za zb, .string lb.2] 58 :: bBlk b (sf b) x O2.length :: bOwn x O2.length O2 :: blk b1 [.int .i64 d.w, .int .i64 d.up, .int .i64 d.dn, .slice p1 d.ss.length p2, .slice r1 d.ls.length r2] 30 :: []) w' := hw'
          exact St.inc IncQ g0))) (fun x2 => ?_)
        repeat' (first | ((apply TX.tree)) | ((apply TT.fin)) | (refine W1 ?_) | (refine W2 (fun hc => ?_) (fun hc => ?_)) | (intro _))
        refine TX.round (x2, i + 1) hlt2 (show d.ls.length - (i + 1) < d.ls.length - i by omega) SubA (fun w' hw => ?_)
        have he : O ++ (d.ls.take (i + 1)).flatMap (fun l => (labelB nb l).data.toList) = O2 ++ u4.data.toList := by
          rw [htk, flatMap_snoc, ← List.append_assoc, hO2, hlab]
        rw [he]
        exact St.inc IncQ hw
      have hck2 : decide ((i : Int) < (d.ls.length : Int)) = false := decide_eq_false (by omega)
      obtain rfl : i = d.ls.length := by omega
      rw [List.take_of_length_le (Nat.le_refl _)]
      generalize hF : O ++ d.ls.flatMap (fun l => (labelB nb l).data.toList) = F at *
      have hFl : F.length = O.length + (d.ls.flatMap (fun l => (labelB nb l).data.toList)).length := by rw [← hF, List.length_append]
      have hF0 : F ≠ [] := fun e => by
        rw [e, List.length_nil] at hFl
        have : 1 ≤ hh.size := by rw [← q6, ByteArray.size_append, c3]; omega
        omega
      repeat' (first | (refine W1 ?_) | (refine W2 (fun hc => ?_) (fun hc => ?_)) | (intro _))
      refine T.callM (f := 31) (val := fun _ : Unit => .string ⟨F.toArray⟩) (LL := fun _ => [blk b1 [.int .i64 d.w, .int .i64 d.up, .int .i64 d.dn, .slice p1 d.ss.length p2, .slice r1 d.ls.length r2] 30]) rfl rfl (fun w' hw' => bstr_any (L0 := [blk b1 [.int .i64 d.w, .int .i64 d.up, .int .i64 d.dn, .slice p1 d.ss.length p2, .slice r1 d.ls.length r2] 30]) b (sf b) x F w' hF0 (by omega) hw') (fun _ => ?_)
      repeat' (first | (refine W1 ?_) | (refine W2 (fun hc => ?_) (fun hc => ?_)) | (intro _))
      exact TX.ret_tmp rfl rfl (fun w' hw => RetV.eq hw rfl)
end Go.Proofs.YtalnmednhhimhaaDoor
/- The law's helpers, walked: large, of, size. -/
namespace Go.Bonsai
open Go Go.Sl Go.RowKit
theorem RTrees.of {w0 w : World} {L : List HP} {e n : Nat} {B : Nat} {rows : List (List Value)} {ts : List Tre} (hl : ts.length = n) (hw : St w0 L w) (ha : At L (own e 2 (some ⟨B, 0, none⟩) n n rows)) (h : All2 (RTreeC (Old w) w) rows ts) : RTrees (Old w) w (.slice (some ⟨B, 0, none⟩) n n) ts := by
  subst hl
  exact ⟨_, _, rows, rfl, St.own_arr hw ha, h, Nat.le_refl _⟩
theorem RTree.c {S : Nat → Prop} {w : World} {A : Option Addr} {c : Nat} {t : Tre} (h : RTree S w (.agg #[.slice A t.nodes.length c, .int .i64 t.root]) t) : RTreeC S w [.slice A t.nodes.length c, .int .i64 t.root] t := by
  obtain ⟨nv, e, h1⟩ := h
  simp at e
  subst e
  exact ⟨A, c, rfl, h1⟩
/-- so small that the law looks -/
def Small6 (l : List Tre) : Prop := l.length + tot l + totK l < 600
/-- has a drawing this size, so many strokes and labels? -/
def sizeB (r : Drw × Bool) (a b c e f : Int) : Bool := r.2 && decide (r.1.w = a) && decide (r.1.up = b) && decide (r.1.dn = c) && decide ((r.1.ss.length : Int) = e) && decide ((r.1.ls.length : Int) = f)
end Go.Bonsai
namespace Go.Proofs.YtalnmednhhimhaaDoor
open Go Go.Sl Go.RowKit Go.Bonsai Go.Fl
set_option linter.unusedVariables false
set_option linter.unusedSimpArgs false
set_option maxHeartbeats 1000000 in
theorem large6_any (v : Value) (l : List Tre) (w : World) (hr : RTrees (Old w) w v l) (hl : l.length ≤ 4398046511104) (hwl : ∀ t ∈ l, t.wf) :
    Calls Tryd.prog 6 #[v] w (Ret w (fun b : Bool => .bool b) (fun _ => []) (fun b => b = false → Small6 l)) := by
  obtain ⟨A, c, rows0, rfl, hA, hrows, hc⟩ := hr
  refine TC.calls (l := [.slice A l.length c]) Tryd.func6 rfl Tryd.ntmps6 rfl (St.start w) ?_
  repeat' (first | (refine W1 ?_) | (refine W2 (fun hc => ?_) (fun hc => ?_)) | (intro _))
  refine TC.loopA (ι := Nat × Int) (0, 0) (fun k r => (4, .int .i64 k.1) :: (3, .int .i64 k.2) :: r) (fun _ => St w [])
    (fun k => k.1 ≤ l.length ∧ 0 ≤ k.2 ∧ k.2 ≤ 2000 ∧ (k.2 < 600 → (k.1 : Int) + tot (l.take k.1) + totK (l.take k.1) ≤ k.2)) (fun k => l.length - k.1) KpA SubA (fun w' hw => St.inc IncA hw) ⟨Nat.zero_le _, Int.le_refl _, by simp, by simp [tot, totK]⟩ ?_
  rintro ⟨i, n⟩ ⟨hi, hn0, hn1, hn2⟩
  simp only at hi hn0 hn1 hn2 ⊢
  by_cases hlt : i < l.length
  case neg =>
    have hck : decide ((i : Int) < (l.length : Int)) = false := by simp; omega
    repeat' (first | (refine W1 ?_) | (refine W2 (fun hc => ?_) (fun hc => ?_)) | (intro _))
    refine TX.ret_tmp rfl rfl (fun w' hw => ?_)
    refine Ret.mk (decide (600 ≤ n)) (fun h => ?_) .nil hw
    obtain rfl : i = l.length := by omega
    rw [List.take_of_length_le (Nat.le_refl _)] at hn2
    simp at h
    have := hn2 h
    unfold Small6; omega
  case pos =>
    have hck : decide ((i : Int) < (l.length : Int)) = true := by simp [hlt]
    by_cases hn4 : n < 600
    case neg =>
      have hcn : decide (n < 600) = false := by simpa using hn4
      repeat' (first | (refine W1 ?_) | (refine W2 (fun hc => ?_) (fun hc => ?_)) | (intro _))
      refine TX.ret_tmp rfl rfl (fun w' hw => ?_)
      refine Ret.mk (decide (600 ≤ n)) (fun h => ?_) .nil hw
      simp at h; omega
    case pos =>
      have hcn : decide (n < 600) = true := by simpa using hn4
      obtain ⟨cs, hcs, hrc⟩ := hrows.get (List.getElem?_eq_getElem hlt)
      have hwt := hwl _ (List.getElem_mem hlt)
      have htt := tot_take l i hlt
      have htk := totK_take l i hlt
      have hn2 := hn2 hn4
      generalize l[i] = t at *
      obtain ⟨K, kc, rfl, Kn⟩ := hrc
      obtain ⟨K', kc', rows', e, hK, hrows', _⟩ := Kn
      injection e with e1 e2 e3
      subst e1; subst e3
      have hA' : A = some (A.getD default) := hA.some_ (by omega)
      have hI1 : I64 (n + 1) := by unfold I64; omega
      have hI2 : I64 (n + 1 + min 600 (t.nodes.length : Int)) := by unfold I64; omega
      have htl := hwt.len
      unfold bigN at htl
      repeat' (first | (refine W1 ?_) | (refine W2 (fun hc => ?_) (fun hc => ?_)) | (intro _))
      refine TC.loopA (ι := Nat × Int) (0, n + 1 + min 600 (t.nodes.length : Int)) (fun k r => (5, .int .i64 k.1) :: (3, .int .i64 k.2) :: r) (fun _ => St w [])
        (fun k => k.1 ≤ t.nodes.length ∧ 0 ≤ k.2 ∧ k.2 ≤ 2000 ∧ (k.2 < 600 → (i : Int) + 1 + tot (l.take i) + totK (l.take i) + t.nodes.length + (allKids (t.nodes.take k.1)).length ≤ k.2)) (fun k => t.nodes.length - k.1) KpA SubA (fun w' hw => St.inc IncA hw) ⟨Nat.zero_le _, by show 0 ≤ n + 1 + min 600 (t.nodes.length : Int); omega, by show n + 1 + min 600 (t.nodes.length : Int) ≤ 2000; omega, by show n + 1 + min 600 (t.nodes.length : Int) < 600 → _; intro _; simp [allKids]; omega⟩ ?_
      rintro ⟨k, q⟩ ⟨hk, hq0, hq1, hq2⟩
      simp only at hk hq0 hq1 hq2 ⊢
      by_cases hkt : k < t.nodes.length
      case neg =>
        have hckt : decide ((k : Int) < (t.nodes.length : Int)) = false := by simp; omega
        repeat' (first | (refine W1 ?_) | (refine W2 (fun hc => ?_) (fun hc => ?_)) | (intro _))
        refine TX.round (i + 1, q) ⟨hlt, hq0, hq1, fun h => ?_⟩ (show l.length - (i + 1) < l.length - i by omega) SubA (fun w' hw => St.inc IncA hw)
        have := hq2 h
        show ((i + 1 : Nat) : Int) + tot (l.take (i + 1)) + totK (l.take (i + 1)) ≤ q
        obtain rfl : k = t.nodes.length := by omega
        rw [List.take_of_length_le (Nat.le_refl _)] at this
        omega
      case pos =>
        have hckt : decide ((k : Int) < (t.nodes.length : Int)) = true := by simp [hkt]
        by_cases hq4 : q < 600
        case neg =>
          have hcq : decide (q < 600) = false := by simpa using hq4
          repeat' (first | (refine W1 ?_) | (refine W2 (fun hc => ?_) (fun hc => ?_)) | (intro _))
          exact TX.round (i + 1, q) ⟨hlt, hq0, hq1, fun h => absurd h hq4⟩ (show l.length - (i + 1) < l.length - i by omega) SubA (fun w' hw => St.inc IncA hw)
        case pos =>
          have hcq : decide (q < 600) = true := by simpa using hq4
          have hq2 := hq2 hq4
          obtain ⟨cs, hcs', kv, rfl, K2, kc2, rfl, hK2, hkc2⟩ := hrows'.get (List.getElem?_eq_getElem hkt)
          have hwn := hwt.nodes _ (List.getElem_mem hkt)
          have hak := allKids_takeL (List.getElem?_eq_getElem hkt)
          generalize t.nodes[k] = n2 at *
          have hkl := hwn.kids.1
          have htx := hwn.text
          unfold bigL at hkl
          have hK' : K = some (K.getD default) := hK.some_ (by omega)
          repeat' (first | (refine W1 ?_) | (refine W2 (fun hc => ?_) (fun hc => ?_)) | (intro _))
          refine TX.round (k + 1, q + min 600 (n2.kids.length : Int) + min 600 ((n2.text.size : Int) / 20)) ⟨hkt, ?_, ?_, ?_⟩ (show t.nodes.length - (k + 1) < t.nodes.length - k by omega) SubA (fun w' hw => St.inc IncA hw)
          · show 0 ≤ q + min 600 (n2.kids.length : Int) + min 600 ((n2.text.size : Int) / 20)
            omega
          · show q + min 600 (n2.kids.length : Int) + min 600 ((n2.text.size : Int) / 20) ≤ 2000
            omega
          · show q + min 600 (n2.kids.length : Int) + min 600 ((n2.text.size : Int) / 20) < 600 → _
            intro hq5
            show (i : Int) + 1 + tot (l.take i) + totK (l.take i) + t.nodes.length + (allKids (t.nodes.take (k + 1))).length ≤ q + min 600 (n2.kids.length : Int) + min 600 ((n2.text.size : Int) / 20)
            omega

theorem of6_any (n : Nod) (kv v : Value) (l : List Tre) (w : World) (hn : n.wf) (hr : RTrees (Old w) w v l) (hl : l.length ≤ bigN) (hwl : ∀ t ∈ l, t.wf) (hto : tot l + 1 ≤ bigN) (hT : Tab w) :
    Calls Tryd.prog 13 #[.agg (n.cells kv).toArray, v] w (RetT w (ofP n l).1) := by
  have hr0 := hr
  obtain ⟨A, c, rows0, rfl, hA, hrows, hc⟩ := hr
  refine TC.calls (l := [.agg (n.cells kv).toArray, .slice A l.length c]) Tryd.func13 rfl Tryd.ntmps13 rfl (St.start w) ?_
  obtain ⟨z, hz⟩ : ∃ z, z = ofP n l := ⟨_, rfl⟩
  rw [← hz]
  repeat' (first | (refine W1 ?_) | (refine W2 (fun hc => ?_) (fun hc => ?_)) | (intro _))
  refine T.callR rfl rfl (fun w' hw' => by have h := of_any n kv _ l w' hn (St.old_trees hw' hr0) hl hwl hto (Tab.st hT hw'); rw [← hz] at h; exact h) (fun q _ => ?_)
  repeat' (first | (refine W1 ?_) | (refine W2 (fun hc => ?_) (fun hc => ?_)) | (intro _))
  refine TX.ret_gen (rs := [.cell 4 24]) (vs := [.agg #[.slice q.1 z.1.nodes.length q.2, .int .i64 z.1.root]]) rfl (.cell rfl (blk_res (cs := [.slice q.1 z.1.nodes.length q.2, .int .i64 z.1.root]) AtA rfl) .nil) (fun w' hw => ?_)
  exact Ret.mk q trivial IncA hw
theorem size_any (v : Value) (t : Tre) (a b c e f : Int) (w : World) (hr : RTree (Old w) w v t) (ht : t.wf) (hT : Tab w) (hZ : TabZ w) : Calls Tryd.prog 14 #[v, .int .i64 a, .int .i64 b, .int .i64 c, .int .i64 e, .int .i64 f] w (RetV w (.bool (sizeB (drawB t) a b c e f))) := by
  have hr0 := hr
  obtain ⟨nv, rfl, hn⟩ := hr
  refine TC.calls (l := [.agg #[nv, .int .i64 t.root], .int .i64 a, .int .i64 b, .int .i64 c, .int .i64 e, .int .i64 f]) Tryd.func14 rfl Tryd.ntmps14 rfl (St.start w) ?_
  obtain ⟨r, hrr⟩ : ∃ r, drawB t = r := ⟨_, rfl⟩
  obtain ⟨A, cc, _, rfl, _⟩ := hn
  repeat' (first | (refine W1 ?_) | (refine W2 (fun hc => ?_) (fun hc => ?_)) | (intro _))
  refine T.callR (f := 8) rfl rfl (fun w' hw' => draw_any _ t w' (St.old_tree hw' hr0) ht (Tab.st hT hw') (TabZ.st hZ hw')) (fun x _ => ?_)
  rw [hrr]
  obtain ⟨D, ok⟩ := r
  dsimp only
  cases ok with
  | false =>
    repeat' (first | (refine W1 ?_) | (refine W2 (fun hc => ?_) (fun hc => ?_)) | (intro _))
    exact TX.ret_tmp rfl rfl (fun w' hw => RetV.eq hw (by simp [sizeB]))
  | true =>
    repeat' (first | (refine W1 ?_) | (refine W2 (fun hc => ?_) (fun hc => ?_)) | (intro _))
    all_goals
      refine TX.ret_tmp rfl rfl (fun w' hw => RetV.eq hw (congrArg Value.bool ?_))
      unfold sizeB
      clear hw
      simp_all
end Go.Proofs.YtalnmednhhimhaaDoor
/- The law's examples, walked. -/
namespace Go.Sl
open Go Go.Fl
theorem Ev.ceql {P : Program} {n : FD} {s : Sg} {M : World → Prop} {ty : TypeId} {x y : Operand} {t u : TypeId} {a b c d : Nat} {i j k l : Int} (hx : ev s x = some (.complex .f64 a b)) (hy : ev s y = some (.complex .f64 c d)) (ha : Den a i) (hb : Den b j) (hc : Den c k) (hd : Den d l) : Ev P n s M (.binOp .eql t x y u) ty (.bool (decide (i = k) && decide (j = l))) := by
  have e1 : FloatKind.f64.format.order a c = some (compare i k) := order_den ha hc
  have e2 : FloatKind.f64.format.order b d = some (compare j l) := order_den hb hd
  have h1 : (compare i k = .eq) ↔ i = k := Int.compare_eq_eq
  have h2 : (compare j l = .eq) ↔ j = l := Int.compare_eq_eq
  refine ⟨fun ac w o ho ht' hf hm => ?_⟩
  simp [execOp, ho, hf.ev hx, hf.ev hy, eqGuard, binOp, Op.complexOp, Op.Complex.cmp, Op.floatCmp, e1, e2, asBool]
  by_cases hi : i = k
  · rw [h1.2 hi]
    by_cases hj : j = l
    · rw [h2.2 hj]; simp [hi, hj]
    · have : ¬ compare j l = .eq := fun hh => hj (h2.1 hh)
      cases hcc : compare j l <;> simp_all
  · have : ¬ compare i k = .eq := fun hh => hi (h1.1 hh)
    cases hcc : compare i k <;> cases hcd : compare j l <;> simp_all
end Go.Sl
namespace Go.Bonsai
open Go Go.Sl Go.RowKit
def rule6 (s : List UInt8) : Tre := ⟨[⟨3, .zero, ⟨s.toArray⟩, 0, 0, []⟩], 0⟩
def text6 (s : List UInt8) : Tre := ⟨[⟨2, .zero, ⟨s.toArray⟩, 0, 0, []⟩], 0⟩
def empty6 : Tre := ⟨[⟨0, .zero, ⟨#[]⟩, 0, 0, []⟩], 0⟩
def cho6 : Nod := ⟨5, .zero, ⟨#[]⟩, 0, 0, []⟩
def rep6 : Nod := ⟨6, .zero, ⟨#[]⟩, 0, -1, []⟩
theorem aw1 : drawB empty6 = (emptyD, true) := by rfl
theorem aw2 : (drawB (text6 [97])).2 = true ∧ (drawB (text6 [97])).1.w = 7 ∧ (drawB (text6 [97])).1.up = 1 ∧ (drawB (text6 [97])).1.dn = 1 ∧ (drawB (text6 [97])).1.ss.length = 3 ∧ (drawB (text6 [97])).1.ls = [((2, 0), ⟨#[34, 97, 34]⟩)] := by decide +kernel
theorem aw3 : let C := drawB (ofP cho6 [rule6 [120], rule6 [121]]).1
  C.2 = true ∧ C.1.w = 9 ∧ C.1.up = 1 ∧ C.1.dn = 4 ∧ C.1.ls = [((4, 0), ⟨#[120]⟩), ((4, 3), ⟨#[121]⟩)] := by decide +kernel
theorem aw4 : sizeB (drawB (ofP rep6 [rule6 [120]]).1) 9 3 2 7 2 = true := by decide +kernel
theorem aw5 : (⟨(showL (fun x => smallB x.toNat) emptyD).toArray⟩ : ByteArray) = ⟨#[115, 105, 122, 101, 32, 50, 32, 48, 32, 48, 10, 115, 116, 114, 111, 107, 101, 32, 48, 44, 48, 32, 50, 44, 48, 10]⟩ := by rfl
end Go.Bonsai
namespace Go.Proofs.YtalnmednhhimhaaDoor
open Go Go.Sl Go.RowKit Go.Bonsai Go.Fl Go.Lib
set_option linter.unusedVariables false
set_option linter.unusedSimpArgs false
theorem num_small {n : Nat} (h : n < 100) : NumT (fun x => smallB x.toNat) (n : Int) := by
  have hs := smallB_size n
  refine ⟨by simp only [Int.toNat_natCast]; omega, fun w => ?_⟩
  have := show_any n w h
  simpa using this
theorem show6_any (p r : Option Addr × Nat) (w : World) (hr : RdD w p r emptyD) : Calls Tryd.prog 19 #[dVal p r emptyD] w (RetV w (.string ⟨#[115, 105, 122, 101, 32, 50, 32, 48, 32, 48, 10, 115, 116, 114, 111, 107, 101, 32, 48, 44, 48, 32, 50, 44, 48, 10]⟩)) := by
  have n0 : NumT (fun x => smallB x.toNat) 0 := num_small (n := 0) (by omega)
  have n2 : NumT (fun x => smallB x.toNat) 2 := num_small (n := 2) (by omega)
  have h := show_draw (fun x => smallB x.toNat) emptyD p r w hr ⟨n2, n0, n0, fun s hs => ?_, fun l hl => (by cases hl), (by decide), (by decide), (by decide +kernel)⟩
  · rw [aw5] at h
    exact h
  · simp only [emptyD, List.mem_singleton] at hs
    subst hs
    refine ⟨by decide, fun q hq => ?_⟩
    simp only [List.mem_cons, List.not_mem_nil, or_false] at hq
    rcases hq with rfl | rfl
    · exact ⟨⟨by decide, by decide⟩, n0, n0⟩
    · exact ⟨⟨by decide, by decide⟩, n2, n0⟩
theorem okSmall {n : Nod} (h1 : 0 ≤ n.kind ∧ n.kind ≤ 255) (h2 : n.set = .zero) (h3 : n.text.size ≤ 100) (h4 : -100 ≤ n.min ∧ n.min ≤ 100) (h5 : -100 ≤ n.max ∧ n.max ≤ 100) (h6 : n.kids = []) : n.wf :=
  ⟨h1, by rw [h2]; unfold Bts.wf Bts.zero; decide, by omega, by unfold I64; omega, by unfold I64; omega, by rw [h6]; exact ⟨by simp, by simp⟩⟩
theorem one_wf {n : Nod} (h : n.wf) : (⟨[n], 0⟩ : Tre).wf := ⟨by show 1 ≤ bigN; unfold bigN; omega, fun m hm => by simp at hm; subst hm; exact h, ⟨by show (-9223372036854775808 : Int) ≤ 0; decide, by show (0 : Int) ≤ 9223372036854775807; decide⟩⟩
set_option maxHeartbeats 4000000 in
set_option maxRecDepth 100000 in
theorem awake6_any (w : World) (hT : Tab w) (hZ : TabZ w) : Calls Tryd.prog 7 #[] w (RetV w (.bool true)) := by
  obtain ⟨x, hx⟩ : ∃ x, x = rule6 [120] := ⟨_, rfl⟩
  obtain ⟨y, hy⟩ : ∃ y, y = rule6 [121] := ⟨_, rfl⟩
  obtain ⟨a, ha⟩ : ∃ a, a = text6 [97] := ⟨_, rfl⟩
  obtain ⟨em, he⟩ : ∃ em, em = empty6 := ⟨_, rfl⟩
  have wx : x.wf := by rw [hx]; exact one_wf (okSmall (by decide) rfl (by decide) (by decide) (by decide) rfl)
  have wy : y.wf := by rw [hy]; exact one_wf (okSmall (by decide) rfl (by decide) (by decide) (by decide) rfl)
  have wa : a.wf := by rw [ha]; exact one_wf (okSmall (by decide) rfl (by decide) (by decide) (by decide) rfl)
  have we : em.wf := by rw [he]; exact one_wf (okSmall (by decide) rfl (by decide) (by decide) (by decide) rfl)
  have wc : cho6.wf := okSmall (by decide) rfl (by decide) (by decide) (by decide) rfl
  have wr : rep6.wf := okSmall (by decide) rfl (by decide) (by decide) (by decide) rfl
  have lx : x.nodes.length = 1 := by rw [hx]; rfl
  have ly : y.nodes.length = 1 := by rw [hy]; rfl
  obtain ⟨cxy, hcxy⟩ : ∃ c, (ofP cho6 [x, y]).1 = c := ⟨_, rfl⟩
  obtain ⟨px, hpx⟩ : ∃ c, (ofP rep6 [x]).1 = c := ⟨_, rfl⟩
  have t2 : tot [x, y] + 1 ≤ bigN := by simp only [tot, List.map_cons, List.map_nil, List.sum_cons, List.sum_nil, lx, ly]; unfold bigN; omega
  have t1 : tot [x] + 1 ≤ bigN := by simp only [tot, List.map_cons, List.map_nil, List.sum_cons, List.sum_nil, lx]; unfold bigN; omega
  have m2 : ∀ t ∈ [x, y], t.wf := fun t ht => by simp at ht; rcases ht with rfl | rfl <;> assumption
  have m1 : ∀ t ∈ [x], t.wf := fun t ht => by simp at ht; subst ht; assumption
  have wcxy : cxy.wf := by rw [← hcxy]; exact ofP_wf wc m2 t2
  have wpx : px.wf := by rw [← hpx]; exact ofP_wf wr m1 t1
  have tx_ : ∀ w', Calls Tryd.prog 12 #[.string ⟨#[120]⟩] w' (RetT w' x) := fun w' => by rw [hx]; exact tree_rule ⟨#[120]⟩ w'
  have ty_ : ∀ w', Calls Tryd.prog 12 #[.string ⟨#[121]⟩] w' (RetT w' y) := fun w' => by rw [hy]; exact tree_rule ⟨#[121]⟩ w'
  have ta_ : ∀ w', Calls Tryd.prog 15 #[.string ⟨#[97]⟩] w' (RetT w' a) := fun w' => by rw [ha]; exact tree_text ⟨#[97]⟩ w'
  have te_ : ∀ w', Calls Tryd.prog 16 #[] w' (RetT w' em) := fun w' => by rw [he]; exact tree_empty w'
  have k1 : drawB em = (emptyD, true) := by rw [he]; exact aw1
  have k2 := aw2
  rw [← ha] at k2
  have k3 := aw3
  rw [← hx, ← hy, hcxy] at k3
  have k4 := aw4
  rw [← hx, hpx] at k4
  obtain ⟨A, hA⟩ : ∃ A, drawB a = A := ⟨_, rfl⟩
  obtain ⟨C, hC⟩ : ∃ C, drawB cxy = C := ⟨_, rfl⟩
  rw [hA] at k2
  simp only [hC] at k3
  obtain ⟨a0, a1, a2, a3, a4, a5⟩ := k2
  obtain ⟨c0, c1, c2, c3, c4⟩ := k3
  obtain ⟨DA, oa⟩ := A
  obtain ⟨DC, oc⟩ := C
  simp only at a0 a1 a2 a3 a4 a5 c0 c1 c2 c3 c4
  subst a0
  subst c0
  have hlA : 0 < DA.ls.length := by rw [a5]; decide
  have hlC : 1 < DC.ls.length := by rw [c4]; decide
  have hof : ∀ v w', RTrees (Old w') w' v [x, y] → Tab w' → Calls Tryd.prog 13 #[.agg (cho6.cells (.slice none 0 0)).toArray, v] w' (RetT w' cxy) := fun v w' h1 h2 => by
    rw [← hcxy]; exact of6_any cho6 _ v [x, y] w' wc h1 (by show 2 ≤ bigN; unfold bigN; omega) m2 t2 h2
  have hop : ∀ v w', RTrees (Old w') w' v [x] → Tab w' → Calls Tryd.prog 13 #[.agg (rep6.cells (.slice none 0 0)).toArray, v] w' (RetT w' px) := fun v w' h1 h2 => by
    rw [← hpx]; exact of6_any rep6 _ v [x] w' wr h1 (by show 1 ≤ bigN; unfold bigN; omega) m1 t1 h2
  have hdC : ∀ v w', RTree (Old w') w' v cxy → Tab w' → TabZ w' → Calls Tryd.prog 8 #[v] w' (RetDB w' (DC, true)) := fun v w' h1 h2 h3 => by
    rw [← hC]; exact draw_any v cxy w' h1 wcxy h2 h3
  have f1 : (!decide ((DA.ls.length : Int) = 1)) = false := by rw [a5]; rfl
  have f2 : (!decide ((DC.ls.length : Int) = 2)) = false := by rw [c4]; rfl
  have g1 : decide (DA.w = 7) = true := decide_eq_true a1
  have g2 : decide (DA.up = 1) = true := decide_eq_true a2
  have g3 : decide (DA.dn = 1) = true := decide_eq_true a3
  have g4 : decide ((DA.ss.length : Int) = 3) = true := by rw [a4]; rfl
  have g5 : decide (DC.w = 9) = true := decide_eq_true c1
  have g6 : decide (DC.up = 1) = true := decide_eq_true c2
  have g7 : decide (DC.dn = 4) = true := decide_eq_true c3
  have dn4 : Den 4616189618054758400 4 := den_of (s := false) (n := 4) (by decide) (by decide +kernel) rfl (by decide) (by decide)
  have dn3 : Den 4613937818241073152 3 := den_of (s := false) (n := 3) (by decide) (by decide +kernel) rfl (by decide) (by decide)
  clear hx hy ha he
  refine TC.calls (l := []) Tryd.func7 rfl Tryd.ntmps7 rfl (St.start w) ?_
  repeat' (first | (refine W1 ?_) | (refine W2 (fun hc => ?_) (fun hc => ?_)) | (intro _))
  refine T.callR rfl rfl (fun w' hw' => tx_ w') (fun p1 _ => ?_)
  repeat' (first | (refine W1 ?_) | (refine W2 (fun hc => ?_) (fun hc => ?_)) | (intro _))
  rename_i v1
  refine T.callR rfl rfl (fun w' hw' => te_ w') (fun p2 _ => ?_)
  repeat' (first | (refine W1 ?_) | (refine W2 (fun hc => ?_) (fun hc => ?_)) | (intro _))
  refine T.callR (f := 8) rfl rfl (fun w' hw' => draw_any _ em w' (St.get_treeN (A := p2.1) (c := p2.2) hw' AtA) we (Tab.st hT hw') (TabZ.st hZ hw')) (fun xE _ => ?_)
  rw [k1]
  repeat' (first | (refine W1 ?_) | (refine W2 (fun hc => ?_) (fun hc => ?_)) | (intro _))
  rename_i v2
  refine T.callR rfl rfl (fun w' hw' => ta_ w') (fun p3 _ => ?_)
  repeat' (first | (refine W1 ?_) | (refine W2 (fun hc => ?_) (fun hc => ?_)) | (intro _))
  refine T.callR (f := 8) rfl rfl (fun w' hw' => draw_any _ a w' (St.get_treeN (A := p3.1) (c := p3.2) hw' AtA) wa (Tab.st hT hw') (TabZ.st hZ hw')) (fun xA _ => ?_)
  rw [hA]
  repeat' (first | ((refine TC.holdR 4 ?_)) | (refine W1 ?_) | (refine W2 (fun hc => ?_) (fun hc => ?_)) | (intro _))
  rename_i v4
  refine ⟨?_⟩
  refine TC.sub (M' := St w [blk v4 (rowD xA DA) 30, hDr xA DA, blk v2 (rowD xE emptyD) 30, hDr xE emptyD, blk v1 [.slice p1.1 x.nodes.length p1.2, .int .i64 x.root] 24, hNodes (.slice p1.1 x.nodes.length p1.2) x.nodes]) (fun w' hw => by
    have g0 : St w (blk v4 (rowD xA DA) 30 :: hDr xA DA :: hNodes (.slice p3.1 a.nodes.length p3.2) a.nodes :: blk v2 (rowD xE emptyD) 30 :: hDr xE emptyD :: hNodes (.slice p2.1 em.nodes.length p2.2) em.nodes :: blk v1 [.slice p1.1 x.nodes.length p1.2, .int .i64 x.root] 24 :: hNodes (.slice p1.1 x.nodes.length p1.2) x.nodes :: []) w' := hw
    exact St.inc IncQ g0) ?_
  refine TC.cutA (ι := Nat × PP) (fun k r => (6, .pointer (some ⟨k.1, 0, none⟩)) :: (7, .bool true) :: r) (fun k => St w [blk k.1 (rowD k.2 DC) 30, hDr k.2 DC, blk v4 (rowD xA DA) 30, hDr xA DA, blk v2 (rowD xE emptyD) 30, hDr xE emptyD, blk v1 [.slice p1.1 x.nodes.length p1.2, .int .i64 x.root] 24, hNodes (.slice p1.1 x.nodes.length p1.2) x.nodes]) KpA ?_ (fun k => ?_)
  · refine TC.lexT [] (.seg [0, 1] (.both (.seg [2] (.both (.seg [3] (.both (.seg [4] (.both (.seg [5, 6, 7, 8, 9, 10, 11] .fin) (.seg [9, 5, 6, 7, 8, 10, 11] .fin))) (.seg [9, 4, 5, 6, 7, 8, 10, 11] .fin))) (.seg [9, 3, 4, 5, 6, 7, 8, 10, 11] .fin))) (.seg [9, 2, 3, 4, 5, 6, 7, 8, 10, 11] .fin))) mixed (by kernel_rfl) (TT.seg rfl ?_)
    repeat' (first | ((apply TX.tree)) | ((apply TT.both)) | ((apply TT.seg; exact rfl)) | ((apply TT.fin)) | ((apply TL.quiet; exact rfl; exact rfl; exact St.base IncB; apply Ev.loadW; exact rfl; exact AtR; exact rfl)) | ((apply TL.keep; exact rfl; exact rfl; exact St.base IncB; exact Ac.alloc rfl; exact fun _ => St.base IncB)) | ((apply TL.keep; exact rfl; exact rfl; exact St.base IncB; (apply Ac.lit2; exact rfl; exact rfl; exact rfl; exact rfl; exact rfl; exact rfl; exact rfl); exact fun _ => St.base IncB)) | ((apply TL.kcallR (f := 12); exact rfl; (intro w' _; exact ty_ w'); exact rfl; exact rfl; exact St.base IncB)) | ((apply TL.kcallR (f := 13); exact rfl; (intro w' hw'; exact hof _ w' (RTrees.of rfl hw' (by first | exact .here | exact .there .here | exact .there (.there .here)) (All2.more (St.get_treeN hw' AtR).c (All2.more (St.get_treeN hw' AtR).c .nil))) (Tab.st hT hw')); exact rfl; exact rfl; exact St.base IncB)) | ((apply TL.kcallR (f := 8); exact rfl; (intro w' hw'; exact hdC _ w' (St.get_treeN hw' AtR) (Tab.st hT hw') (TabZ.st hZ hw')); exact rfl; exact rfl; exact St.base IncB)) | (refine W1 ?_) | (refine W2 (fun hc => ?_) (fun hc => ?_)) | (intro _))
    all_goals (apply TX.join (_, _); exact SubA; exact fun w' hw => St.inc IncQ hw)
  obtain ⟨v6, xC⟩ := k
  dsimp only
  refine TC.ex (ι := List (List Value)) (M' := fun lr => St w [hSr 2 RLab RLab.rd xC.2.1 DC.ls.length lr DC.ls, hDr xA DA, blk v6 (rowD xC DC) 30, blk v4 (rowD xA DA) 30, blk v2 (rowD xE emptyD) 30, hDr xE emptyD, blk v1 [.slice p1.1 x.nodes.length p1.2, .int .i64 x.root] 24, hNodes (.slice p1.1 x.nodes.length p1.2) x.nodes]) (fun w' hw => ?_) (fun lrC => ?_)
  · obtain ⟨lr, h⟩ := St.weakEx (H' := fun rows => hSr 2 RLab RLab.rd xC.2.1 DC.ls.length rows DC.ls) (fun S w h => hSl_open (rowD_rd h).2) (St.del (H := hDr xC DC) DelA hw)
    exact ⟨lr, St.inc IncQ h⟩
  refine TC.ex (ι := List (List Value)) (M' := fun lr => St w [hSr 2 RLab RLab.rd xA.2.1 DA.ls.length lr DA.ls, hSr 2 RLab RLab.rd xC.2.1 DC.ls.length lrC DC.ls, blk v6 (rowD xC DC) 30, blk v4 (rowD xA DA) 30, blk v2 (rowD xE emptyD) 30, hDr xE emptyD, blk v1 [.slice p1.1 x.nodes.length p1.2, .int .i64 x.root] 24, hNodes (.slice p1.1 x.nodes.length p1.2) x.nodes]) (fun w' hw => ?_) (fun lrA => ?_)
  · obtain ⟨lr, h⟩ := St.weakEx (H' := fun rows => hSr 2 RLab RLab.rd xA.2.1 DA.ls.length rows DA.ls) (fun S w h => hSl_open (rowD_rd h).2) (St.del (H := hDr xA DA) DelA hw)
    exact ⟨lr, St.inc IncQ h⟩
  refine TC.fact (φ := ∃ u1 u2, lrA[0]? = some [.complex .f64 u1 u2, .string ⟨#[34, 97, 34]⟩] ∧ Den u1 2 ∧ Den u2 0) (fun w' hw => ?_) ?_
  · have h := St.sr_all (A := xA.2.1) (n := DA.ls.length) (xs := DA.ls) (R := RLab) (hR := RLab.rd) hw AtA
    rw [a5] at h
    obtain ⟨cs, h1, pv, rfl, u1, u2, rfl, h3, h4⟩ := h.get (i := 0) rfl
    exact ⟨u1, u2, h1, h3, h4⟩
  rintro ⟨u1, u2, hA0, hu1, hu2⟩
  refine TC.fact (φ := ∃ u1 u2, lrC[1]? = some [.complex .f64 u1 u2, .string ⟨#[121]⟩] ∧ Den u1 4 ∧ Den u2 3) (fun w' hw => ?_) ?_
  · have h := St.sr_all (A := xC.2.1) (n := DC.ls.length) (xs := DC.ls) (R := RLab) (hR := RLab.rd) hw AtA
    rw [c4] at h
    obtain ⟨cs, h1, pv, rfl, u1, u2, rfl, h3, h4⟩ := h.get (i := 1) rfl
    exact ⟨u1, u2, h1, h3, h4⟩
  rintro ⟨z1, z2, hC1, hz1, hz2⟩
  repeat' (first | ((refine TC.holdR 7 ?_)) | (refine W1 ?_) | (refine W2 (fun hc => ?_) (fun hc => ?_)) | (intro _))
  refine ⟨TC.seq (TC.region ?_)⟩
  dsimp only [List.append]
  repeat' (first | ((apply T.ev_ (d := 72); exact rfl; apply Ev.indexAddr (i := 0); exact rfl; exact rfl; exact hlA; exact fun w' hw' => (St.sr_arr (xs := DA.ls) (R := RLab) (hR := RLab.rd) hw' AtR).some_ hlA)) | ((apply T.ev_ (d := 80); exact rfl; apply Ev.indexAddr (i := 0); exact rfl; exact rfl; exact hlA; exact fun w' hw' => (St.sr_arr (xs := DA.ls) (R := RLab) (hR := RLab.rd) hw' AtR).some_ hlA)) | ((apply T.ev_ (d := 114); exact rfl; apply Ev.indexAddr (i := 1); exact rfl; exact rfl; exact hlC; exact fun w' hw' => (St.sr_arr (xs := DC.ls) (R := RLab) (hR := RLab.rd) hw' AtR).some_ (Nat.lt_of_succ_lt hlC))) | ((apply T.ev_ (d := 74); exact rfl; apply Ev.cell (i := 0) (o := 0); exact rfl; exact rfl; (exact fun w' hw' => St.sr_arr (xs := DA.ls) (R := RLab) (hR := RLab.rd) hw' AtR); exact hA0; exact rfl)) | ((apply T.ev_ (d := 82); exact rfl; apply Ev.cell (i := 0) (o := 1); exact rfl; exact rfl; (exact fun w' hw' => St.sr_arr (xs := DA.ls) (R := RLab) (hR := RLab.rd) hw' AtR); exact hA0; exact rfl)) | ((apply T.ev_ (d := 116); exact rfl; apply Ev.cell (i := 1) (o := 0); exact rfl; exact rfl; (exact fun w' hw' => St.sr_arr (xs := DC.ls) (R := RLab) (hR := RLab.rd) hw' AtR); exact hC1; exact rfl)) | ((apply T.ev_ (d := 75); exact rfl; exact Ev.ceql rfl rfl hu1 hu2 den2 den0)) | ((apply T.ev_ (d := 117); exact rfl; exact Ev.ceql rfl rfl hz1 hz2 dn4 dn3)) | (refine W1 ?_) | (refine W2 (fun hc => ?_) (fun hc => ?_)) | (intro _))
  refine T.callR (f := 13) rfl rfl (fun w' hw' => hop _ w' (RTrees.of rfl hw' .here (All2.more (St.get_treeN (A := p1.1) (c := p1.2) hw' AtR).c .nil)) (Tab.st hT hw')) (fun q3 _ => ?_)
  repeat' (first | (refine W1 ?_) | (refine W2 (fun hc => ?_) (fun hc => ?_)) | (intro _))
  refine T.callV (f := 14) rfl rfl (fun w' hw' => by have h := size_any _ px 9 3 2 7 2 w' (St.get_treeN (A := q3.1) (c := q3.2) hw' AtR) wpx (Tab.st hT hw') (TabZ.st hZ hw'); rw [k4] at h; exact h) ?_
  repeat' (first | ((apply T.ev_; exact rfl; apply Ev.loadW; exact rfl; exact AtR; exact rfl)) | ((apply T.callV (f := 19); exact rfl; exact rfl; exact fun w' hw' => show6_any xE.1 xE.2 w' (RdD.of (x := xE) hw' AtR))) | (refine W1 ?_) | (refine W2 (fun hc => ?_) (fun hc => ?_)) | (intro _))
  exact TX.ret_tmp rfl rfl (fun w' hw => RetV.eq hw (congrArg Value.bool (decide_eq_true rfl)))
end Go.Proofs.YtalnmednhhimhaaDoor
/- What the laws share: what is told of a drawing, read row by row; bounds of a tree's drawing. -/
namespace Go.Bonsai
open Go Go.Sl Go.RowKit Go.Fl
instance {α : Type} {sz : Nat} {R : (Nat → Prop) → World → List Value → α → Prop} {hR : Rd R} {A : Option Addr} {n : Nat} {rows : List (List Value)} {xs : List α} : HasArr (hSr sz R hR A n rows xs) sz A n rows := ⟨fun _ _ h => h.1⟩
theorem pRows_of {S : Nat → Prop} {w : World} {rows : List (List Value)} {ps : List Pt} (h : All2 (RPi S w) rows ps) : rows = pRows ps := by
  apply List.ext_getElem?
  intro i
  by_cases hi : i < rows.length
  · have h1 : rows[i]? = some rows[i] := List.getElem?_eq_getElem hi
    have hi2 : i < ps.length := by rw [← h.1]; exact hi
    have h2 : ps[i]? = some ps[i] := List.getElem?_eq_getElem hi2
    have h3 : rows[i] = _ := h.2 i _ _ h1 h2
    rw [h1, h3]
    unfold pRows
    rw [List.getElem?_map, h2]
    rfl
  · rw [List.getElem?_eq_none (by omega), List.getElem?_eq_none (by unfold pRows; rw [List.length_map, ← h.1]; omega)]
theorem pRows_get {ps : List Pt} {i : Nat} {p : Pt} (h : ps[i]? = some p) : (pRows ps)[i]? = some [.int .i64 p.1, .int .i64 p.2] := by simp [pRows, h]
def lRows (ls : List (Pt × ByteArray)) : List (List Value) := ls.map fun l => [.int .i64 l.1.1, .int .i64 l.1.2, .string l.2]
theorem lRows_of {S : Nat → Prop} {w : World} {rows : List (List Value)} {ls : List (Pt × ByteArray)} (h : All2 (RLabI S w) rows ls) : rows = lRows ls := by
  apply List.ext_getElem?
  intro i
  by_cases hi : i < rows.length
  · have h1 : rows[i]? = some rows[i] := List.getElem?_eq_getElem hi
    have hi2 : i < ls.length := by rw [← h.1]; exact hi
    have h2 : ls[i]? = some ls[i] := List.getElem?_eq_getElem hi2
    have h3 : rows[i] = _ := h.2 i _ _ h1 h2
    rw [h1, h3]
    unfold lRows
    rw [List.getElem?_map, h2]
    rfl
  · rw [List.getElem?_eq_none (by omega), List.getElem?_eq_none (by unfold lRows; rw [List.length_map, ← h.1]; omega)]
theorem lRows_get {ls : List (Pt × ByteArray)} {i : Nat} {l : Pt × ByteArray} (h : ls[i]? = some l) : (lRows ls)[i]? = some [.int .i64 l.1.1, .int .i64 l.1.2, .string l.2] := by simp [lRows, h]
/-- a told stroke's row -/
theorem strI_row {S : Nat → Prop} {w : World} {rows : List (List Value)} {ss : List (List Pt)} {i : Nat} {s : List Pt} (h : All2 (RStrI S w) rows ss) (hi : ss[i]? = some s) : ∃ A c, rows[i]? = some [.slice A s.length c] ∧ (0 < s.length → A = some (A.getD default)) := by
  obtain ⟨cs, h1, v, rfl, A, c, r, rfl, h2, h3, h4⟩ := h.get hi
  exact ⟨A, c, h1, fun h0 => h2.some_ h0⟩
theorem strI_arr {S : Nat → Prop} {w : World} {rows : List (List Value)} {ss : List (List Pt)} {i : Nat} {s : List Pt} {A : Option Addr} {c : Nat} (h : All2 (RStrI S w) rows ss) (hi : ss[i]? = some s) (hr : rows[i]? = some [.slice A s.length c]) : Arr 2 S w A s.length (pRows s) := by
  obtain ⟨cs, h1, v, rfl, A', c', r, rfl, h2, h3, h4⟩ := h.get hi
  rw [hr] at h1
  simp only [Option.some.injEq, List.cons.injEq, and_true, Value.slice.injEq] at h1
  obtain ⟨h5, _⟩ := h1
  subst h5
  rw [← pRows_of h3]
  exact h2
theorem Ev.elemP {P : Program} {n : FD} {s : Sg} {M : World → Prop} {ty : TypeId} {x : Operand} {t k sz m i o q : Nat} {A : Option Addr} {rows : List (List Value)} {r cs : List Value} [LN P t k] {S : World → Nat → Prop}
    (hx : ev s x = some (.pointer (some ((A.getD default).add q)))) (hq : q = i * sz + o) (hA : ∀ w, M w → Arr sz (S w) w A m rows) (hr : rows[i]? = some r) (hc : (r.drop o).take k = cs) (hk : cs.length = k) : Ev P n s M (.load t x) ty (.agg cs.toArray) :=
  Ev.loadN hx hk (fun w hw j v hj => by
    rw [Sl.add_add, hq, Nat.add_assoc]
    refine (hA w hw).cell hr ?_
    rw [← hc, List.getElem?_take] at hj
    split at hj
    · rw [List.getElem?_drop] at hj; exact hj
    · cases hj)
/-- what a tree's drawing is told to be -/
structure TolD (d : Drw) : Prop where
  in_ : d.In
  jd : d.Jd
  w : d.w ≤ 5000000
  up : d.up ≤ 5000000
  dn : d.dn ≤ 5000000
  n1 : d.ss.length ≤ 5000000
  n2 : d.ls.length ≤ 5000000
  five : ∀ s ∈ d.ss, s.length ≤ 5
theorem told_of {t : Tre} (h : mayP t = true) : TolD (drawP t) := by
  obtain ⟨hR, hN⟩ := mayP_right h
  obtain ⟨r, hr⟩ : ∃ r : Nat, t.root = r := ⟨t.root.toNat, by have := hR.root; omega⟩
  have hd := drw_right hR (i := r) (by have := hR.root; omega)
  have e : drawP t = drwAt t.nodes r := by unfold drawP; rw [hr]
  rw [e]
  have h1 := hd.ok.w; have h2 := hd.ok.h; have h3 := hd.ok.ss; have h4 := hd.ok.ls
  have h5 := hd.ok.in_.up; have h6 := hd.ok.in_.dn
  exact ⟨hd.ok.in_, hd.jd, by omega, by omega, by omega, by omega, by omega, hd.ok.five⟩
theorem TolD.ss {d : Drw} (h : TolD d) : ∀ s ∈ d.ss, s.length ≤ 1000 ∧ ∀ q ∈ s, (-1099511627776 ≤ q.1 ∧ q.1 ≤ 1099511627776) ∧ (-1099511627776 ≤ q.2 ∧ q.2 ≤ 1099511627776) := fun s hs => by
  have h1 := h.five s hs
  refine ⟨by omega, fun q hq => ?_⟩
  obtain ⟨a, b, c, e⟩ := (h.in_.ss s hs).2.2 q hq
  have := h.w; have := h.up; have := h.dn
  omega
theorem TolD.ls {d : Drw} (h : TolD d) : ∀ l ∈ d.ls, (-1099511627776 ≤ l.1.1 ∧ l.1.1 ≤ 1099511627776) ∧ (-1099511627776 ≤ l.1.2 ∧ l.1.2 ≤ 1099511627776) := fun l hl => by
  obtain ⟨a, b, c, e⟩ := h.in_.ls l hl
  have := h.w; have := h.up; have := h.dn
  omega
theorem drawB_no {t : Tre} {D : Drw} (h : drawB t = (D, false)) : mayP t = false := by
  unfold drawB at h
  split at h
  · cases h
  · rename_i hm
    cases hh : mayP t with
    | false => rfl
    | true => exact absurd hh hm
theorem drawB_yes {t : Tre} {D : Drw} (h : drawB t = (D, true)) : TolD D ∧ mayP t = true ∧ D = drawP t := by
  unfold drawB at h
  split at h
  · rename_i hm
    cases h
    exact ⟨told_of hm, hm, rfl⟩
  · cases h
/-- next points -/
theorem strt_at : ∀ {s : List Pt} {i : Nat} {a b : Pt}, strt s → s[i]? = some a → s[i + 1]? = some b → ¬ ((a.1 = b.1) ↔ (a.2 = b.2))
  | [], _, _, _, _, h, _ => by simp at h
  | [x], i, a, b, _, h, h' => by simp at h'
  | x :: y :: r, 0, a, b, hs, h, h' => by
    simp at h h'
    subst h; subst h'
    exact hs.1
  | x :: y :: r, i + 1, a, b, hs, h, h' => strt_at (s := y :: r) hs.2 (by simpa using h) (by simpa using h')
end Go.Bonsai
