/-
  The law RailJoined, walked: it answers true.
-/
import Derived.Test.YtalnmednhhimhaaDoorRailWithin
set_option linter.all false
namespace Go.Bonsai
open Go
def btwB (p a b : Pt) : Bool := decide (min a.1 b.1 ≤ p.1) && decide (p.1 ≤ max a.1 b.1) && decide (min a.2 b.2 ≤ p.2) && decide (p.2 ≤ max a.2 b.2)
def lieB (p : Pt) : List Pt → Bool
  | a :: b :: r => btwB p a b || lieB p (b :: r)
  | _ => false
theorem btwB_iff {p a b : Pt} : btwB p a b = true ↔ btw p a b := by
  unfold btwB btw
  simp [and_assoc]
theorem lieB_iff {p : Pt} : ∀ {s : List Pt}, lieB p s = true ↔ lieP p s
  | [] => by simp [lieB, lieP]
  | [_] => by simp [lieB, lieP]
  | a :: b :: r => by
    have := lieB_iff (p := p) (s := b :: r)
    simp only [lieB, lieP, Bool.or_eq_true, btwB_iff, this]
theorem btwB_cases {p a b : Pt} (h : ¬ btwB p a b = true) : decide (min a.1 b.1 ≤ p.1) = false ∨ (decide (min a.1 b.1 ≤ p.1) = true ∧ decide (p.1 ≤ max a.1 b.1) = false) ∨ (decide (min a.1 b.1 ≤ p.1) = true ∧ decide (p.1 ≤ max a.1 b.1) = true ∧ decide (min a.2 b.2 ≤ p.2) = false) ∨ (decide (min a.1 b.1 ≤ p.1) = true ∧ decide (p.1 ≤ max a.1 b.1) = true ∧ decide (min a.2 b.2 ≤ p.2) = true ∧ decide (p.2 ≤ max a.2 b.2) = false) := by
  unfold btwB at h
  generalize decide (min a.1 b.1 ≤ p.1) = x1 at *
  generalize decide (p.1 ≤ max a.1 b.1) = x2 at *
  generalize decide (min a.2 b.2 ≤ p.2) = x3 at *
  generalize decide (p.2 ≤ max a.2 b.2) = x4 at *
  cases x1 <;> cases x2 <;> cases x3 <;> cases x4 <;> simp_all
theorem btwB_parts {p a b : Pt} (h : btwB p a b = true) : decide (min a.1 b.1 ≤ p.1) = true ∧ decide (p.1 ≤ max a.1 b.1) = true ∧ decide (min a.2 b.2 ≤ p.2) = true ∧ decide (p.2 ≤ max a.2 b.2) = true := by
  unfold btwB at h
  simp only [Bool.and_eq_true] at h
  exact ⟨h.1.1.1, h.1.1.2, h.1.2, h.2⟩
theorem drop_two {s : List Pt} {k : Nat} {a b : Pt} (ha : s[k]? = some a) (hb : s[k + 1]? = some b) : s.drop k = a :: b :: s.drop (k + 2) := by
  have h1 := (List.getElem?_eq_some_iff.1 ha).1
  have h2 := (List.getElem?_eq_some_iff.1 hb).1
  rw [List.drop_eq_getElem_cons h1, List.drop_eq_getElem_cons h2]
  rw [List.getElem?_eq_getElem h1] at ha
  rw [List.getElem?_eq_getElem h2] at hb
  cases ha; cases hb
  rfl
/-- a stroke's ends of a joined drawing -/
theorem jn_at {d : Drw} (h : d.Jd) {i : Nat} {s : List Pt} (hi : d.ss[i]? = some s) : boxQ s ∨ ∀ p, (s.head? = some p ∨ s.getLast? = some p) → (p = (0, 0) ∨ p = (d.w, 0)) ∨ ∃ k t, k ≠ i ∧ d.ss[k]? = some t ∧ lieP p t := by
  have hlt := (List.getElem?_eq_some_iff.1 hi).1
  have e : d.ss = d.ss.take i ++ s :: d.ss.drop (i + 1) := by
    rw [List.getElem?_eq_getElem hlt] at hi
    cases hi
    rw [← List.drop_eq_getElem_cons hlt, List.take_append_drop]
  rcases h.jn _ s _ e with h1 | h1
  · exact .inl h1
  · refine .inr (fun p hp => ?_)
    rcases h1 p hp with h2 | ⟨t, ht, h3⟩
    · exact .inl h2
    · refine .inr ?_
      rcases List.mem_append.1 ht with ht | ht
      · obtain ⟨k, hk⟩ := List.mem_iff_getElem?.1 ht
        rw [List.getElem?_take] at hk
        split at hk
        · exact ⟨k, t, by omega, hk, h3⟩
        · cases hk
      · obtain ⟨k, hk⟩ := List.mem_iff_getElem?.1 ht
        rw [List.getElem?_drop] at hk
        exact ⟨i + 1 + k, t, by omega, hk, h3⟩
end Go.Bonsai
namespace Go.Proofs.YtalnmednhhimhaaDoor
open Go Go.Sl Go.RowKit Go.Bonsai Go.Fl
set_option linter.unusedVariables false
set_option linter.unusedSimpArgs false
theorem pt_eq (a0 a1 b0 b1 : Int) (w : World) : (Op.equalIn 10000 42 (.agg #[.int .i64 a0, .int .i64 a1]) (.agg #[.int .i64 b0, .int .i64 b1])).run Tryd.prog w = .ok (decide (((a0, a1) : Pt) = (b0, b1))) w := by
  have h1 : ∀ (a b : Int) w, (Op.equalIn 9999 3 (.int .i64 a) (.int .i64 b)).run Tryd.prog w = .ok (a == b) w := fun a b w => run_equalIn_int w 9998 _ _ _ a b Tryd.underlying3
  have h3 : ∀ w, (isAgg 3).run Tryd.prog w = .ok false w := fun w => by simp [isAgg, run_underlying Tryd.underlying3]
  show (Op.equalIn (9999 + 1) _ _ _).run _ _ = _
  rw [Op.equalIn]
  simp only [Sem.run_bind, run_underlying Tryd.underlying42, Result.andThen_ok]
  simp [part, h1, h3]
  by_cases e0 : a0 = b0 <;> by_cases e1 : a1 = b1 <;> simp [e0, e1]
theorem Ev.pt_eql {n : FD} {s : Sg} {M : World → Prop} {ty u : TypeId} {x y : Operand} {a b : Pt} (hx : ev s x = some (.agg #[.int .i64 a.1, .int .i64 a.2])) (hy : ev s y = some (.agg #[.int .i64 b.1, .int .i64 b.2])) :
    Ev Tryd.prog n s M (.binOp .eql 42 x y u) ty (.bool (decide (a = b))) := by
  refine ⟨fun ac w o ho ht hf hm => ?_⟩
  have hg : Tryd.prog.eqGuardType Tryd.prog.depth 42 = false := by kernel_rfl
  have h := pt_eq a.1 a.2 b.1 b.2 w
  simp only [execOp, ho, hf.ev hx, hf.ev hy]
  obtain ⟨a0, a1⟩ := a
  obtain ⟨b0, b1⟩ := b
  simp [run_eqGuard_agg w _ _ _ _ _ _ hg, run_eql_struct, h]
set_option maxHeartbeats 2000000 in
theorem lies_any (p : Pt) (s : List Pt) (A : Option Addr) (c : Nat) (w : World) (hA : Arr 2 (Old w) w A s.length (pRows s)) (hl : s.length ≤ 1000) : Calls Tryd.prog 11 #[.agg #[.int .i64 p.1, .int .i64 p.2], .slice A s.length c] w (RetV w (.bool (lieB p s))) := by
  refine TC.calls (l := [.agg #[.int .i64 p.1, .int .i64 p.2], .slice A s.length c]) Tryd.func11 rfl Tryd.ntmps11 rfl (St.start w) ?_
  repeat' (first | (refine W1 ?_) | (refine W2 (fun hc => ?_) (fun hc => ?_)) | (intro _))
  rename_i b2
  refine TC.loopA (ι := Nat) 0 (fun k r => (5, .int .i64 ((k + 1 : Nat) : Int)) :: r) (fun _ => St w [blk b2 [.int .i64 p.1, .int .i64 p.2] 42]) (fun k => k ≤ s.length ∧ lieB p s = lieB p (s.drop k)) (fun k => s.length - k) KpA SubA (fun w' hw => hw) ⟨Nat.zero_le _, rfl⟩ ?_
  rintro k ⟨hk, he⟩
  by_cases hlt : k + 1 < s.length
  · have hck : decide (((k + 1 : Nat) : Int) < (s.length : Int)) = true := decide_eq_true (by omega)
    have hlk : k < s.length := by omega
    have ha : s[k]? = some s[k] := List.getElem?_eq_getElem hlk
    have hb : s[k + 1]? = some s[k + 1] := List.getElem?_eq_getElem hlt
    generalize s[k] = a at *
    generalize s[k + 1] = b at *
    have hra := pRows_get ha
    have hrb := pRows_get hb
    have hdr := drop_two ha hb
    have hd1 : s.drop (k + 1) = b :: s.drop (k + 2) := by rw [← List.drop_drop (i := 1), hdr]; rfl
    have hlb : lieB p s = (btwB p a b || lieB p (s.drop (k + 1))) := by rw [he, hdr, hd1]; rfl
    have hA' : A = some (A.getD default) := hA.some_ (by omega)
    have hm1 : k ≤ 1000000000 := by omega
    repeat' (first | ((refine TC.holdR 5 ?_)) | ((apply TL.keepN; (exact rfl); (exact DropA); (apply Ac.store; (exact rfl); (exact rfl); (exact rfl); (exact rfl); (exact rfl); (exact UpdA); (exact rfl)); (exact Drop2A); (intro _))) | ((refine TC.lexT [(11, .keep), (12, .keep)] (.seg [0, 1, 2, 3, 4, 5, 6, 7, 8] (.both (.seg [9, 10, 11, 12] .fin) (.seg [10, 9, 11, 12] .fin))) mixed (by kernel_rfl) (TT.seg rfl ?_))) | ((apply TX.tree)) | ((apply TT.both)) | ((apply TT.seg; exact rfl)) | ((apply TT.fin)) | ((apply TL.pure_ (d := 16); exact rfl; exact rfl; apply Ev.predN; exact rfl; exact hm1)) | ((apply TL.quiet (d := 18); exact rfl; exact rfl; exact DropA; apply Ev.elem (i := k); exact rfl; exact rfl; (exact fun w' hw' => St.old_arr hw' hA); exact hra; exact rfl)) | ((apply TL.quiet (d := 22); exact rfl; exact rfl; exact DropA; apply Ev.elem (i := k + 1); exact rfl; exact rfl; (exact fun w' hw' => St.old_arr hw' hA); exact hrb; exact rfl)) | (refine W1 ?_) | (refine W2 (fun hc => ?_) (fun hc => ?_)) | (intro _))
    all_goals
      refine ⟨?_⟩
      by_cases hbt : btwB p a b = true
      · obtain ⟨x1, x2, x3, x4⟩ := btwB_parts hbt
        repeat' (first | (refine W1 ?_) | (refine W2 (fun hc => ?_) (fun hc => ?_)) | (intro _))
        exact TX.ret_tmp rfl rfl (fun w' hw => RetV.eq hw (by rw [hlb, hbt]; rfl))
      · have hnx : lieB p s = lieB p (s.drop (k + 1)) := by
          rw [hlb]
          cases h : btwB p a b with
          | true => exact absurd h hbt
          | false => rfl
        rcases btwB_cases hbt with x1 | ⟨x1, x2⟩ | ⟨x1, x2, x3⟩ | ⟨x1, x2, x3, x4⟩
        all_goals
          repeat' (first | (refine W1 ?_) | (refine W2 (fun hc => ?_) (fun hc => ?_)) | (intro _))
          exact TX.round (k + 1) ⟨by omega, hnx⟩ (show s.length - (k + 1) < s.length - k by omega) SubA (fun w' hw => St.inc IncQ hw)
  have hck : decide (((k + 1 : Nat) : Int) < (s.length : Int)) = false := decide_eq_false (by omega)
  have hf : lieB p s = false := by
    rw [he]
    rcases hd : s.drop k with _ | ⟨a, _ | ⟨b, r⟩⟩
    · rfl
    · rfl
    · have := congrArg List.length hd
      simp only [List.length_drop, List.length_cons] at this
      omega
  rw [hf]
  repeat' (first | (refine W1 ?_) | (refine W2 (fun hc => ?_) (fun hc => ?_)) | (intro _))
  exact TX.ret_tmp rfl rfl (fun w' hw => RetV.eq hw rfl)
theorem drawB_zero {t : Tre} {D : Drw} (h : drawB t = (D, false)) : D = .zero := by
  unfold drawB at h
  split at h
  · cases h
  · cases h; rfl
set_option maxHeartbeats 8000000 in
set_option maxRecDepth 100000 in
theorem railJoined_any (v : Value) (t : Tre) (w : World) (hr : RTree (Old w) w v t) (ht : t.wf) (hT : Tab w) (hZ : TabZ w) : Calls Tryd.prog 4 #[v] w (RetV w (.bool true)) := by
  have hr0 := hr
  obtain ⟨nv, rfl, hn⟩ := hr
  obtain ⟨A, cc, _, rfl, _⟩ := hn
  refine TC.calls (l := [.agg #[.slice A t.nodes.length cc, .int .i64 t.root]]) Tryd.func4 rfl Tryd.ntmps4 rfl (St.start w) ?_
  repeat' (first | (refine W1 ?_) | (refine W2 (fun hc => ?_) (fun hc => ?_)) | (intro _))
  rename_i b1 B
  refine T.callR (f := 6) rfl rfl (fun w' hw' => large6_any _ [t] w' (RTrees.of rfl hw' .here (All2.more (RTree.c (St.old_tree hw' hr0)) .nil)) (by show 1 ≤ _; omega) (fun x hx => by rw [List.mem_singleton] at hx; subst hx; exact ht)) (fun lg _ => ?_)
  cases lg with
  | true =>
    repeat' (first | ((apply T.callV (f := 7); exact rfl; exact rfl; (intro w' hw'; exact awake6_any w' (Tab.st hT hw') (TabZ.st hZ hw')))) | (refine W1 ?_) | (refine W2 (fun hc => ?_) (fun hc => ?_)) | (intro _))
    exact TX.ret_tmp rfl rfl (fun w' hw => RetV.eq hw rfl)
  | false =>
    repeat' (first | ((apply T.callV (f := 7); exact rfl; exact rfl; (intro w' hw'; exact awake6_any w' (Tab.st hT hw') (TabZ.st hZ hw')))) | (refine W1 ?_) | (refine W2 (fun hc => ?_) (fun hc => ?_)) | (intro _))
    obtain ⟨r, hrr⟩ : ∃ r, drawB t = r := ⟨_, rfl⟩
    obtain ⟨D, ok⟩ := r
    refine T.callR (f := 8) rfl rfl (fun w' hw' => by have h := draw_any _ t w' (St.old_tree hw' hr0) ht (Tab.st hT hw') (TabZ.st hZ hw'); rw [hrr] at h; exact h) (fun x _ => ?_)
    dsimp only
    repeat' (first | (refine W1 ?_) | (refine W2 (fun hc => ?_) (fun hc => ?_)) | (intro _))
    rename_i b3
    refine T.sub (M' := St w [blk b3 (rowD x D) 30, hDr x D, blk b1 [.slice A t.nodes.length cc, .int .i64 t.root] 24]) (fun w' hw => by
      have g0 : St w (blk b3 (rowD x D) 30 :: hDr x D :: _ :: blk b1 [.slice A t.nodes.length cc, .int .i64 t.root] 24 :: []) w' := hw
      exact St.inc IncQ g0) ?_
    cases ok with
    | false =>
      have hm := drawB_no hrr
      obtain rfl := drawB_zero hrr
      refine T.callR (f := 10) rfl rfl (fun w' hw' => told_any .zero x.1 x.2 w' (RdD.of hw' AtA) ⟨by decide, by decide⟩ (fun s hs => by cases hs) (fun l hl => by cases hl)) (fun z _ => ?_)
      repeat' (first | ((apply T.callV (f := 9); exact rfl; exact rfl; (intro w' hw'; exact may_any _ t w' (St.old_tree hw' hr0) ht (Tab.st hT hw')))) | (refine W1 ?_) | (refine W2 (fun hc => ?_) (fun hc => ?_)) | (intro _))
      exact TX.ret_tmp rfl rfl (fun w' hw => RetV.eq hw (by rw [hm]; rfl))
    | true =>
      obtain ⟨hD, hm, _⟩ := drawB_yes hrr
      refine T.callR (f := 10) rfl rfl (fun w' hw' => told_any' x hD hw' AtA) (fun z _ => ?_)
      repeat' (first | ((refine TC.holdR 7 ?_)) | (refine W1 ?_) | (refine W2 (fun hc => ?_) (fun hc => ?_)) | (intro _))
      rename_i b5
      refine ⟨?_⟩
      refine TC.ex (ι := List (List Value)) (M' := fun sr => St w [hSr 1 RStrI RStrI.rd z.1.1 D.ss.length sr D.ss, hSr 3 RLabI RLabI.rd z.2.1 D.ls.length (lRows D.ls) D.ls, blk b5 (rowD z D) 37, blk b3 (rowD x D) 30]) (fun w' hw => ?_) (fun sr => ?_)
      · have g0 : St w (blk b5 (rowD z D) 37 :: hSl 1 RStrI RStrI.rd (.slice z.1.1 D.ss.length z.1.2) D.ss :: hSl 3 RLabI RLabI.rd (.slice z.2.1 D.ls.length z.2.2) D.ls :: blk b3 (rowD x D) 30 :: _) w' := hw
        obtain ⟨sr, h1⟩ := St.weakEx (H' := fun rows => hSr 1 RStrI RStrI.rd z.1.1 D.ss.length rows D.ss) (fun S w h => hSl_open h) (St.del (H := hSl 1 RStrI RStrI.rd (.slice z.1.1 D.ss.length z.1.2) D.ss) DelA g0)
        obtain ⟨lr, h2⟩ := St.weakEx (H' := fun rows => hSr 3 RLabI RLabI.rd z.2.1 D.ls.length rows D.ls) (fun S w h => hSl_open h) (St.del (H := hSl 3 RLabI RLabI.rd (.slice z.2.1 D.ls.length z.2.2) D.ls) DelA h1)
        have e : lr = lRows D.ls := lRows_of (St.sr_all (A := z.2.1) (n := D.ls.length) (xs := D.ls) (R := RLabI) (hR := RLabI.rd) h2 AtA)
        subst e
        exact ⟨sr, St.inc IncQ h2⟩
      refine TC.fact (φ := 0 < D.ss.length → z.1.1 = some (z.1.1.getD default)) (fun w' hw h0 => (St.sr_arr (xs := D.ss) (R := RStrI) (hR := RStrI.rd) hw AtA).some_ h0) (fun hz1 => ?_)
      have n1 := hD.n1; have d5 := hD.five; have dw0 := hD.in_.w; have dw := hD.w; have dss := hD.in_.ss; have djn := hD.jd
      repeat' (first | (refine W1 ?_) | (refine W2 (fun hc => ?_) (fun hc => ?_)) | (intro _))
      refine TC.loopA (ι := Nat) 0 (fun i r => (7, .int .i64 i) :: r) (fun _ => St w [hSr 1 RStrI RStrI.rd z.1.1 D.ss.length sr D.ss, hSr 3 RLabI RLabI.rd z.2.1 D.ls.length (lRows D.ls) D.ls, blk b5 (rowD z D) 37, blk b3 (rowD x D) 30]) (fun i => i ≤ D.ss.length) (fun i => D.ss.length - i) KpA SubA (fun w' hw => hw) (Nat.zero_le _) ?_
      intro i hi
      by_cases hlt : i < D.ss.length
      · have hck : decide ((i : Int) < (D.ss.length : Int)) = true := decide_eq_true (by omega)
        have hgx : D.ss[i]? = some D.ss[i] := List.getElem?_eq_getElem hlt
        have hmem := List.getElem_mem hlt
        generalize D.ss[i] = s at *
        obtain ⟨s2, s3, s4⟩ := dss s hmem
        have s5 := d5 s hmem
        have hzz := hz1 (by omega)
        refine TC.fact (φ := ∃ A c, sr[i]? = some [.slice A s.length c] ∧ (0 < s.length → A = some (A.getD default))) (fun w' hw => strI_row (St.sr_all (A := z.1.1) (n := D.ss.length) (xs := D.ss) (R := RStrI) (hR := RStrI.rd) hw AtA) hgx) ?_
        rintro ⟨Ai, ci, hrow, hAi0⟩
        have hAi := hAi0 (by omega)
        have hWW : ∀ w', St w [hSr 1 RStrI RStrI.rd z.1.1 D.ss.length sr D.ss, hSr 3 RLabI RLabI.rd z.2.1 D.ls.length (lRows D.ls) D.ls, blk b5 (rowD z D) 37, blk b3 (rowD x D) 30] w' → Arr 2 (Old w') w' Ai s.length (pRows s) := fun w' hw => strI_arr (St.sr_all (A := z.1.1) (n := D.ss.length) (xs := D.ss) (R := RStrI) (hR := RStrI.rd) hw AtA) hgx hrow
        have hc2 : decide ((s.length : Int) < 2) = false := decide_eq_false (by omega)
        have h0 : s[0]? = some s[0] := List.getElem?_eq_getElem (by omega)
        have hl : s[s.length - 1]? = some s[s.length - 1] := List.getElem?_eq_getElem (by omega)
        generalize s[0] = p0 at *
        generalize s[s.length - 1] = pl at *
        have hr0 := pRows_get h0
        have hrl := pRows_get hl
        have hh0 : s.head? = some p0 := by rw [List.head?_eq_getElem?]; exact h0
        have hhl : s.getLast? = some pl := by rw [List.getLast?_eq_getElem?]; exact hl
        repeat' (first | ((refine TC.holdR 13 ?_)) | (refine W1 ?_) | (refine W2 (fun hc => ?_) (fun hc => ?_)) | (intro _))
        refine ⟨?_⟩
        have hWr : ∀ w', St w [hSr 1 RStrI RStrI.rd z.1.1 D.ss.length sr D.ss, hSr 3 RLabI RLabI.rd z.2.1 D.ls.length (lRows D.ls) D.ls, blk b5 (rowD z D) 37, blk b3 (rowD x D) 30] w' → Arr 2 (Old w') w' Ai s.length (pRows s) := hWW
        by_cases h5 : s.length = 5 ∧ p0 = pl
        · obtain ⟨h5, hpp⟩ := h5
          have k1 : decide ((s.length : Int) = 5) = true := decide_eq_true (by omega)
          have k2 : decide (p0 = pl) = true := decide_eq_true hpp
          have hr4 : (pRows s)[4]? = some [.int .i64 pl.1, .int .i64 pl.2] := by rw [show (4 : Nat) = s.length - 1 by omega]; exact hrl
          have h04 : 0 < s.length := by omega
          have h44 : 4 < s.length := by omega
          repeat' (first | ((apply TL.pure_ (d := 60); exact rfl; exact rfl; apply Ev.indexAddr (i := 0); exact rfl; exact rfl; exact h04; exact fun _ _ => hAi)) | ((apply TL.pure_ (d := 63); exact rfl; exact rfl; apply Ev.indexAddr (i := 4); exact rfl; exact rfl; exact h44; exact fun _ _ => hAi)) | ((apply TL.quiet (d := 61); exact rfl; exact rfl; exact DropA; apply Ev.elem (i := 0) (A := Ai) (rows := pRows s); exact rfl; exact rfl; exact hWW; exact hr0; exact rfl)) | ((apply TL.quiet (d := 64); exact rfl; exact rfl; exact DropA; apply Ev.elem (i := 4) (A := Ai) (rows := pRows s); exact rfl; exact rfl; exact hWW; exact hr4; exact rfl)) | ((apply TL.pure_ (d := 65); exact rfl; exact rfl; apply Ev.pt_eql (a := p0) (b := pl); exact rfl; exact rfl)) | (refine W1 ?_) | (refine W2 (fun hc => ?_) (fun hc => ?_)) | (intro _))
          exact TX.round (i + 1) hlt (show D.ss.length - (i + 1) < D.ss.length - i by omega) SubA (fun w' hw => hw)
        have hends := (jn_at djn hgx).resolve_left (fun hb => h5 ⟨hb.1, by have e := hb.2; rw [hh0, hhl] at e; exact Option.some.inj e⟩)
        have hn : ∀ j, j < 2 → ∃ p : Pt, ([[Value.int .i64 p0.1, .int .i64 p0.2], [.int .i64 pl.1, .int .i64 pl.2]] : List (List Value))[j]? = some [.int .i64 p.1, .int .i64 p.2] ∧ ((p = (0, 0) ∨ p = (D.w, 0)) ∨ ∃ k t, k ≠ i ∧ D.ss[k]? = some t ∧ lieP p t) := fun j hj => by
          have e : j = 0 ∨ j = 1 := by omega
          rcases e with rfl | rfl
          · exact ⟨p0, rfl, hends p0 (.inl hh0)⟩
          · exact ⟨pl, rfl, hends pl (.inr hhl)⟩
        refine TC.cutA (ι := {b : Bool // b = false}) (fun b r => (66, .bool b.1) :: r) (fun _ => St w [hSr 1 RStrI RStrI.rd z.1.1 D.ss.length sr D.ss, hSr 3 RLabI RLabI.rd z.2.1 D.ls.length (lRows D.ls) D.ls, blk b5 (rowD z D) 37, blk b3 (rowD x D) 30]) KpA ?_ (fun b => ?_)
        · by_cases h55 : s.length = 5
          · have k1 : decide ((s.length : Int) = 5) = true := decide_eq_true (by omega)
            have k2 : decide (p0 = pl) = false := decide_eq_false (fun e => h5 ⟨h55, e⟩)
            have hr4 : (pRows s)[4]? = some [.int .i64 pl.1, .int .i64 pl.2] := by rw [show (4 : Nat) = s.length - 1 by omega]; exact hrl
            have h04 : 0 < s.length := by omega
            have h44 : 4 < s.length := by omega
            repeat' (first | ((apply TL.pure_ (d := 60); exact rfl; exact rfl; apply Ev.indexAddr (i := 0); exact rfl; exact rfl; exact h04; exact fun _ _ => hAi)) | ((apply TL.pure_ (d := 63); exact rfl; exact rfl; apply Ev.indexAddr (i := 4); exact rfl; exact rfl; exact h44; exact fun _ _ => hAi)) | ((apply TL.quiet (d := 61); exact rfl; exact rfl; exact DropA; apply Ev.elem (i := 0) (A := Ai) (rows := pRows s); exact rfl; exact rfl; exact hWW; exact hr0; exact rfl)) | ((apply TL.quiet (d := 64); exact rfl; exact rfl; exact DropA; apply Ev.elem (i := 4) (A := Ai) (rows := pRows s); exact rfl; exact rfl; exact hWW; exact hr4; exact rfl)) | ((apply TL.pure_ (d := 65); exact rfl; exact rfl; apply Ev.pt_eql (a := p0) (b := pl); exact rfl; exact rfl)) | (refine W1 ?_) | (refine W2 (fun hc => ?_) (fun hc => ?_)) | (intro _))
            exact TX.join ⟨decide (p0 = pl), k2⟩ SubA (fun w' hw => hw)
          · have k1 : decide ((s.length : Int) = 5) = false := decide_eq_false (by omega)
            repeat' (first | (refine W1 ?_) | (refine W2 (fun hc => ?_) (fun hc => ?_)) | (intro _))
            exact TX.join ⟨false, rfl⟩ SubA (fun w' hw => hw)
        obtain ⟨bb, hbb⟩ := b
        dsimp only
        have h04 : 0 < s.length := by omega
        have hl4 : s.length - 1 < s.length := by omega
        repeat' (first | ((refine TC.lexT [] (.seg [0, 1, 2, 3, 4, 5, 6, 7, 8, 11, 9, 10] .fin) mixed (by kernel_rfl) (TT.seg rfl ?_))) | ((apply TX.tree)) | ((apply TT.fin)) | ((apply TL.pure_ (d := 68); exact rfl; exact rfl; apply Ev.indexAddr (i := 0); exact rfl; exact rfl; exact h04; exact fun _ _ => hAi)) | ((apply TL.pure_ (d := 74); exact rfl; exact rfl; apply Ev.indexAddr (i := s.length - 1); exact rfl; exact rfl; exact hl4; exact fun _ _ => hAi)) | ((apply TL.quiet (d := 69); exact rfl; exact rfl; exact DropA; apply Ev.elem (i := 0) (A := Ai) (rows := pRows s); exact rfl; exact rfl; exact hWW; exact hr0; exact rfl)) | ((apply TL.quiet (d := 75); exact rfl; exact rfl; exact DropA; apply Ev.elem (i := s.length - 1) (A := Ai) (rows := pRows s); exact rfl; exact rfl; exact hWW; exact hrl; exact rfl)) | (refine W1 ?_) | (refine W2 (fun hc => ?_) (fun hc => ?_)) | (intro _))
        rename_i BP
        refine TC.loopA (ι := Nat) 0 (fun j r => (78, .int .i64 j) :: r) (fun _ => St w [own 42 2 (some ⟨BP, 0, none⟩) 2 2 [[.int .i64 p0.1, .int .i64 p0.2], [.int .i64 pl.1, .int .i64 pl.2]], hSr 1 RStrI RStrI.rd z.1.1 D.ss.length sr D.ss, hSr 3 RLabI RLabI.rd z.2.1 D.ls.length (lRows D.ls) D.ls, blk b5 (rowD z D) 37, blk b3 (rowD x D) 30]) (fun j => j ≤ 2) (fun j => 2 - j) KpA SubA (fun w' hw => hw) (Nat.zero_le _) ?_
        intro j hj
        by_cases hlj : j < 2
        · have hck2 : decide ((j : Int) < (2 : Nat)) = true := decide_eq_true (by omega)
          obtain ⟨p, hrp, hpe⟩ := hn j hlj
          repeat' (first | ((apply T.ev_ (d := 81); exact rfl; apply Ev.elem (i := j); exact rfl; exact rfl; (exact fun w' hw' => St.own_arr hw' AtA); exact hrp; exact rfl)) | ((refine TC.holdR 17 ?_)) | (refine W1 ?_) | (refine W2 (fun hc => ?_) (fun hc => ?_)) | (intro _))
          rename_i b10
          refine ⟨?_⟩
          refine TC.cutA (ι := {b : Bool // b = false → ¬ (p = (0, 0) ∨ p = (D.w, 0))}) (fun b r => (11, .bool b.1) :: r) (fun _ => St w [blk b10 [.int .i64 p.1, .int .i64 p.2] 42, own 42 2 (some ⟨BP, 0, none⟩) 2 2 [[.int .i64 p0.1, .int .i64 p0.2], [.int .i64 pl.1, .int .i64 pl.2]], hSr 1 RStrI RStrI.rd z.1.1 D.ss.length sr D.ss, hSr 3 RLabI RLabI.rd z.2.1 D.ls.length (lRows D.ls) D.ls, blk b5 (rowD z D) 37, blk b3 (rowD x D) 30]) KpA ?_ (fun b => ?_)
          · by_cases e1 : p = (0, 0)
            · have k1 : decide (p = (0, 0)) = true := decide_eq_true e1
              repeat' (first | ((apply T.ev_ (d := 84); exact rfl; apply Ev.pt_eql (a := p) (b := (0, 0)); exact rfl; exact rfl)) | (refine W1 ?_) | (refine W2 (fun hc => ?_) (fun hc => ?_)) | (intro _))
              exact TX.join ⟨true, fun h => by cases h⟩ SubA (fun w' hw => hw)
            · have k1 : decide (p = (0, 0)) = false := decide_eq_false e1
              by_cases e2 : p = (D.w, 0)
              · have k2 : decide (p = (D.w, 0)) = true := decide_eq_true e2
                repeat' (first | ((apply T.ev_ (d := 84); exact rfl; apply Ev.pt_eql (a := p) (b := (0, 0)); exact rfl; exact rfl)) | ((apply T.ev_ (d := 90); exact rfl; apply Ev.pt_eql (a := p) (b := (D.w, 0)); exact rfl; exact rfl)) | (refine W1 ?_) | (refine W2 (fun hc => ?_) (fun hc => ?_)) | (intro _))
                exact TX.join ⟨decide (p = (D.w, 0)), fun h => by rw [k2] at h; cases h⟩ SubA (fun w' hw => hw)
              · have k2 : decide (p = (D.w, 0)) = false := decide_eq_false e2
                repeat' (first | ((apply T.ev_ (d := 84); exact rfl; apply Ev.pt_eql (a := p) (b := (0, 0)); exact rfl; exact rfl)) | ((apply T.ev_ (d := 90); exact rfl; apply Ev.pt_eql (a := p) (b := (D.w, 0)); exact rfl; exact rfl)) | (refine W1 ?_) | (refine W2 (fun hc => ?_) (fun hc => ?_)) | (intro _))
                exact TX.join ⟨decide (p = (D.w, 0)), fun _ h => h.elim e1 e2⟩ SubA (fun w' hw => hw)
          obtain ⟨bs, hbs⟩ := b
          dsimp only
          repeat' (first | (refine W1 ?_) | (refine W2 (fun hc => ?_) (fun hc => ?_)) | (intro _))
          refine TC.loopA (ι := Nat × Bool) (0, bs) (fun y r => (12, .int .i64 y.1) :: (11, .bool y.2) :: r) (fun _ => St w [blk b10 [.int .i64 p.1, .int .i64 p.2] 42, own 42 2 (some ⟨BP, 0, none⟩) 2 2 [[.int .i64 p0.1, .int .i64 p0.2], [.int .i64 pl.1, .int .i64 pl.2]], hSr 1 RStrI RStrI.rd z.1.1 D.ss.length sr D.ss, hSr 3 RLabI RLabI.rd z.2.1 D.ls.length (lRows D.ls) D.ls, blk b5 (rowD z D) 37, blk b3 (rowD x D) 30]) (fun y => y.1 ≤ D.ss.length ∧ (y.2 = false → bs = false ∧ ∀ k t, k < y.1 → k ≠ i → D.ss[k]? = some t → ¬ lieP p t)) (fun y => D.ss.length - y.1) KpA SubA (fun w' hw => hw) ⟨Nat.zero_le _, fun h => ⟨h, fun k t hk => absurd hk (by simp)⟩⟩ ?_
          rintro ⟨k, okb⟩ ⟨hk, hok⟩
          simp only at hk hok ⊢
          by_cases hgo : k < D.ss.length ∧ okb = false
          · obtain ⟨hlk, rfl⟩ := hgo
            obtain ⟨hb0, hno⟩ := hok rfl
            have hck3 : decide ((k : Int) < (D.ss.length : Int)) = true := decide_eq_true (by omega)
            have hgk : D.ss[k]? = some D.ss[k] := List.getElem?_eq_getElem hlk
            have hmk := List.getElem_mem hlk
            generalize D.ss[k] = u at *
            by_cases hki : k = i
            · have k3 : (!decide ((k : Int) = (i : Int))) = false := by rw [decide_eq_true (by omega)]; rfl
              repeat' (first | (refine W1 ?_) | (refine W2 (fun hc => ?_) (fun hc => ?_)) | (intro _))
              exact TX.round (k + 1, false) ⟨hlk, fun _ => ⟨hb0, fun k' t' h1 h2 h3 => hno k' t' (by simp only at h1; omega) h2 h3⟩⟩ (show D.ss.length - (k + 1) < D.ss.length - k by omega) SubA (fun w' hw => hw)
            · have k3 : (!decide ((k : Int) = (i : Int))) = true := by rw [decide_eq_false (by omega)]; rfl
              refine TC.fact (φ := ∃ A c, sr[k]? = some [.slice A u.length c] ∧ (0 < u.length → A = some (A.getD default))) (fun w' hw => strI_row (St.sr_all (A := z.1.1) (n := D.ss.length) (xs := D.ss) (R := RStrI) (hR := RStrI.rd) hw AtA) hgk) ?_
              rintro ⟨Ak, ck, hrowk, _⟩
              have hWk : ∀ w', St w [blk b10 [.int .i64 p.1, .int .i64 p.2] 42, own 42 2 (some ⟨BP, 0, none⟩) 2 2 [[.int .i64 p0.1, .int .i64 p0.2], [.int .i64 pl.1, .int .i64 pl.2]], hSr 1 RStrI RStrI.rd z.1.1 D.ss.length sr D.ss, hSr 3 RLabI RLabI.rd z.2.1 D.ls.length (lRows D.ls) D.ls, blk b5 (rowD z D) 37, blk b3 (rowD x D) 30] w' → Arr 2 (Old w') w' Ak u.length (pRows u) := fun w' hw => strI_arr (St.sr_all (A := z.1.1) (n := D.ss.length) (xs := D.ss) (R := RStrI) (hR := RStrI.rd) hw AtA) hgk hrowk
              have u5 := d5 u hmk
              repeat' (first | ((apply TL.kcallV (f := 11); exact rfl; (intro w' hw'; exact lies_any p u Ak ck w' (hWk w' hw') (by omega)); exact rfl; exact rfl; exact DropA)) | (refine W1 ?_) | (refine W2 (fun hc => ?_) (fun hc => ?_)) | (intro _))
              refine TX.round (k + 1, lieB p u) ⟨hlk, fun hf => ⟨hb0, fun k' t' h1 h2 h3 => ?_⟩⟩ (show D.ss.length - (k + 1) < D.ss.length - k by omega) SubA (fun w' hw => hw)
              by_cases e : k' = k
              · subst e
                rw [hgk] at h3
                cases h3
                exact fun hh => by rw [lieB_iff.2 hh] at hf; cases hf
              · exact hno k' t' (by simp only at h1; omega) h2 h3
          cases okb with
          | true =>
            by_cases hlk : k < D.ss.length
            · have hck3 : decide ((k : Int) < (D.ss.length : Int)) = true := decide_eq_true (by omega)
              repeat' (first | (refine W1 ?_) | (refine W2 (fun hc => ?_) (fun hc => ?_)) | (intro _))
              exact TX.round (j + 1) hlj (show 2 - (j + 1) < 2 - j by omega) SubA (fun w' hw => St.inc IncQ hw)
            · have hck3 : decide ((k : Int) < (D.ss.length : Int)) = false := decide_eq_false (by omega)
              repeat' (first | (refine W1 ?_) | (refine W2 (fun hc => ?_) (fun hc => ?_)) | (intro _))
              exact TX.round (j + 1) hlj (show 2 - (j + 1) < 2 - j by omega) SubA (fun w' hw => St.inc IncQ hw)
          | false =>
            exfalso
            obtain ⟨hb0, hno⟩ := hok rfl
            rcases hpe with h | ⟨k', t', h1, h2, h3⟩
            · exact hbs hb0 h
            · have := (List.getElem?_eq_some_iff.1 h2).1
              have hkk : ¬ k < D.ss.length := fun h => hgo ⟨h, rfl⟩
              exact hno k' t' (by omega) h1 h2 h3
        have hck2 : decide ((j : Int) < (2 : Nat)) = false := decide_eq_false (by omega)
        repeat' (first | (refine W1 ?_) | (refine W2 (fun hc => ?_) (fun hc => ?_)) | (intro _))
        exact TX.round (i + 1) hlt (show D.ss.length - (i + 1) < D.ss.length - i by omega) SubA (fun w' hw => St.inc IncQ hw)
      have hck : decide ((i : Int) < (D.ss.length : Int)) = false := decide_eq_false (by omega)
      repeat' (first | (refine W1 ?_) | (refine W2 (fun hc => ?_) (fun hc => ?_)) | (intro _))
      exact TX.ret_tmp rfl rfl (fun w' hw => RetV.eq hw rfl)
end Go.Proofs.YtalnmednhhimhaaDoor
