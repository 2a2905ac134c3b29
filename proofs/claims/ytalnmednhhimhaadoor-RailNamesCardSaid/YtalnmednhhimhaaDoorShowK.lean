/-
  rail.Show, walked, where the numbers' texts hang on the world, and the labels' points are told by what show makes of them.
-/
import Derived.Test.YtalnmednhhimhaaDoorRailD
set_option linter.all false
namespace Go.Bonsai
open Go Go.Sl Go.RowKit Go.Fl
/-- a condition on the world that stands while the call's own work goes on -/
def KSt (K : World → Prop) : Prop := ∀ w0 (L : List HP) w, K w0 → St w0 L w → K w
def RLabG (cP : Value → Pt → Prop) (_ : Nat → Prop) (_ : World) (cs : List Value) (l : Pt × ByteArray) : Prop := ∃ za zb, cs = [.complex .f64 za zb, .string l.2] ∧ cP (.complex .f64 za zb) l.1
end Go.Bonsai
namespace Go.Proofs.YtalnmednhhimhaaDoor
open Go Go.Sl Go.RowKit Go.Bonsai Go.Fl Go.Lib
set_option linter.unusedVariables false
set_option linter.unusedSimpArgs false
def NumK (K : World → Prop) (nb : Int → ByteArray) (x : Int) : Prop := (nb x).size ≤ 40 ∧ ∀ w, K w → Calls Tryd.prog 29 #[.int .i64 x] w (RetV w (.string (nb x)))
def PtK (K : World → Prop) (nb : Int → ByteArray) (p : Pt) : Prop := (p.1.natAbs < 2 ^ 53 ∧ p.2.natAbs < 2 ^ 53) ∧ NumK K nb p.1 ∧ NumK K nb p.2
structure ShowK (K : World → Prop) (cP : Value → Pt → Prop) (nb : Int → ByteArray) (d : Drw) : Prop where
  w : NumK K nb d.w
  up : NumK K nb d.up
  dn : NumK K nb d.dn
  ss : ∀ s ∈ d.ss, s.length ≤ 1000000 ∧ ∀ p ∈ s, PtK K nb p
  ls : ∀ l ∈ d.ls, (ptB nb l.1).size ≤ 81 ∧ l.2.size ≤ 100000000 ∧ ∀ v, cP v l.1 → ∀ w, K w → Calls Tryd.prog 30 #[v] w (RetV w (.string (ptB nb l.1)))
  n1 : d.ss.length ≤ 1000000000
  n2 : d.ls.length ≤ 1000000000
  len : (showL nb d).length ≤ 900000000
theorem ptK_size {K : World → Prop} {nb : Int → ByteArray} {p : Pt} (h : PtK K nb p) : (ptB nb p).size ≤ 81 := by
  have h1 := h.2.1.1
  have h2 := h.2.2.1
  have ec : (⟨#[44]⟩ : ByteArray).size = 1 := rfl
  unfold ptB
  rw [ByteArray.size_append, ByteArray.size_append, ec]
  omega
/-- show, by what whole makes of the two parts -/
theorem rshowF (K : World → Prop) (hK : KSt K) (nb : Int → ByteArray) (a b : Nat) (p : Pt) (w : World) (hk : K w) (ha : ∀ w, Calls Tryd.prog 53 #[.float .f64 a] w (RetV w (.int .i64 p.1))) (hb : ∀ w, Calls Tryd.prog 53 #[.float .f64 b] w (RetV w (.int .i64 p.2))) (hn1 : NumK K nb p.1) (hn2 : NumK K nb p.2) :
    Calls Tryd.prog 30 #[.complex .f64 a b] w (RetV w (.string (ptB nb p))) := by
  obtain ⟨hs1, hn1⟩ := hn1
  obtain ⟨hs2, hn2⟩ := hn2
  refine TC.calls (l := [.complex .f64 a b]) Tryd.func30 rfl Tryd.ntmps30 rfl (St.start w) ?_
  obtain ⟨s1, e1⟩ : ∃ s1, nb p.1 ++ (⟨#[44]⟩ : ByteArray) = s1 := ⟨_, rfl⟩
  obtain ⟨s2, e2⟩ : ∃ s2, s1 ++ nb p.2 = s2 := ⟨_, rfl⟩
  have ec : (⟨#[44]⟩ : ByteArray).size = 1 := rfl
  have hz1 : s1.size = (nb p.1).size + 1 := by rw [← e1, ByteArray.size_append, ec]
  have er : ptB nb p = s2 := by unfold ptB; rw [e1, e2]
  rw [er]
  generalize nb p.1 = n1 at *
  generalize nb p.2 = n2 at *
  repeat' (first | ((apply T.ev_; exact rfl; apply Ev.real_; exact rfl)) | ((apply T.ev_; exact rfl; apply Ev.imag_; exact rfl)) | ((apply T.callV (d := 5) (f := 53); exact rfl; exact rfl; exact fun w' _ => ha w')) | ((apply T.callV (d := 10) (f := 53); exact rfl; exact rfl; exact fun w' _ => hb w')) | ((apply T.callV (d := 6) (f := 29); exact rfl; exact rfl; exact fun w' hw' => hn1 w' (hK _ _ _ hk hw'))) | ((apply T.callV (d := 11) (f := 29); exact rfl; exact rfl; exact fun w' hw' => hn2 w' (hK _ _ _ hk hw'))) | ((apply T.ev_; exact rfl; apply Ev.str_addE e1; exact rfl; exact rfl; omega)) | ((apply T.ev_; exact rfl; apply Ev.str_addE e2; exact rfl; exact rfl; omega)) | (refine W1 ?_) | (refine W2 (fun hc => ?_) (fun hc => ?_)) | (intro _))
  exact TX.ret_tmp rfl rfl (fun w' hw => RetV.eq hw rfl)
theorem rshowK (K : World → Prop) (hK : KSt K) (nb : Int → ByteArray) (v : Value) (p : Pt) (w : World) (hk : K w) (hc : cPt v p) (h : PtK K nb p) : Calls Tryd.prog 30 #[v] w (RetV w (.string (ptB nb p))) := by
  obtain ⟨a, b, rfl, ha, hb⟩ := hc
  exact rshowF K hK nb a b p w hk (fun w' => rwhole_any a p.1 w' ha h.1.1) (fun w' => rwhole_any b p.2 w' hb h.1.2) h.2.1 h.2.2
set_option maxHeartbeats 4000000 in
set_option maxRecDepth 20000 in
theorem show_drawK (K : World → Prop) (hK : KSt K) (cP : Value → Pt → Prop) (nb : Int → ByteArray) (d : Drw) (p r : Option Addr × Nat) (w : World) (hk0 : K w) (h1 : RSl 1 RStr (Old w) w (.slice p.1 d.ss.length p.2) d.ss) (h2 : RSl 2 (RLabG cP) (Old w) w (.slice r.1 d.ls.length r.2) d.ls) (h : ShowK K cP nb d) : Calls Tryd.prog 19 #[dVal p r d] w (RetV w (.string ⟨(showL nb d).toArray⟩)) := by
  obtain ⟨A, ca, srows, e1, hA, hs, _⟩ := h1
  obtain ⟨B, cb, lrows, e2, hB, hl, _⟩ := h2
  injection e1 with e1 _ e3
  injection e2 with e4 _ e5
  obtain ⟨p1, p2⟩ := p
  obtain ⟨r1, r2⟩ := r
  simp only at e1 e3 e4 e5
  subst e1; subst e3; subst e4; subst e5
  have hn1 := h.n1
  have hn2 := h.n2
  have hlen := h.len
  have hss := h.ss
  have hls := h.ls
  refine TC.calls (l := [dVal (p1, p2) (r1, r2) d]) Tryd.func19 rfl Tryd.ntmps19 rfl (St.start w) ?_
  obtain ⟨hw1, hw2⟩ := h.w
  obtain ⟨hu1, hu2⟩ := h.up
  obtain ⟨hd1, hd2⟩ := h.dn
  unfold showL at hlen ⊢
  have eH : ∃ hh : ByteArray, hh = headS nb d ∧ hh.size ≤ 200 ∧ ∃ a1 a2 a3 a4 a5 : ByteArray, (⟨#[115, 105, 122, 101, 32]⟩ : ByteArray) ++ nb d.w = a1 ∧ a1 ++ (⟨#[32]⟩ : ByteArray) = a2 ∧ a2 ++ nb d.up = a3 ∧ a3 ++ (⟨#[32]⟩ : ByteArray) = a4 ∧ a4 ++ nb d.dn = a5 ∧ a5 ++ (⟨#[10]⟩ : ByteArray) = hh ∧ a1.size ≤ 200 ∧ a2.size ≤ 200 ∧ a3.size ≤ 200 ∧ a4.size ≤ 200 ∧ a5.size ≤ 200 := by
    have c1 : (⟨#[115, 105, 122, 101, 32]⟩ : ByteArray).size = 5 := rfl
    have c2 : (⟨#[32]⟩ : ByteArray).size = 1 := rfl
    have c3 : (⟨#[10]⟩ : ByteArray).size = 1 := rfl
    refine ⟨_, rfl, ?_, _, _, _, _, _, rfl, rfl, rfl, rfl, rfl, rfl, ?_, ?_, ?_, ?_, ?_⟩
    · unfold headS
      simp only [ByteArray.size_append, c1, c2, c3]
      omega
    all_goals
      simp only [ByteArray.size_append, c1, c2, c3]
      omega
  obtain ⟨hh, ehh, hhz, a1, a2, a3, a4, a5, q1, q2, q3, q4, q5, q6, z1, z2, z3, z4, z5⟩ := eH
  rw [← ehh] at hlen ⊢
  have c1 : (⟨#[115, 105, 122, 101, 32]⟩ : ByteArray).size = 5 := rfl
  have c2 : (⟨#[32]⟩ : ByteArray).size = 1 := rfl
  have c3 : (⟨#[10]⟩ : ByteArray).size = 1 := rfl
  have hhl := bytes_len hh
  generalize nb d.w = nw at *
  generalize nb d.up = nu at *
  generalize nb d.dn = nd at *
  clear ehh
  repeat' (first | ((refine TC.lexT [(15, .loud)] (.seg [0, 1, 5, 6, 10, 11, 2, 3, 4, 7, 8, 9, 12, 13, 14, 15] .fin) mixed (by kernel_rfl) (TT.seg rfl ?_))) | ((apply TL.kcallV (d := 12) (f := 29); exact rfl; (intro w' hw'; exact hw2 w' (hK _ _ _ hk0 hw')); exact rfl; exact rfl; exact DropA)) | ((apply TL.kcallV (d := 17) (f := 29); exact rfl; (intro w' hw'; exact hu2 w' (hK _ _ _ hk0 hw')); exact rfl; exact rfl; exact DropA)) | ((apply TL.kcallV (d := 22) (f := 29); exact rfl; (intro w' hw'; exact hd2 w' (hK _ _ _ hk0 hw')); exact rfl; exact rfl; exact DropA)) | ((apply TL.pure_ (d := 13); exact rfl; exact rfl; apply Ev.str_addE q1; exact rfl; exact rfl; omega)) | ((apply TL.pure_ (d := 14); exact rfl; exact rfl; apply Ev.str_addE q2; exact rfl; exact rfl; omega)) | ((apply TL.pure_ (d := 18); exact rfl; exact rfl; apply Ev.str_addE q3; exact rfl; exact rfl; omega)) | ((apply TL.pure_ (d := 19); exact rfl; exact rfl; apply Ev.str_addE q4; exact rfl; exact rfl; omega)) | ((apply TL.pure_ (d := 23); exact rfl; exact rfl; apply Ev.str_addE q5; exact rfl; exact rfl; omega)) | ((apply TL.pure_ (d := 24); exact rfl; exact rfl; apply Ev.str_addE q6; exact rfl; exact rfl; omega)) | (refine W1 ?_) | (refine W2 (fun hc => ?_) (fun hc => ?_)) | (intro _))
  rename_i b1 b
  refine TL.lcall rfl rfl (Cl.callM (f := 28) (val := fun _ : Option Addr × Nat => .tuple #[.int .i64 (hh.size : Int), .nilIface]) rfl (fun w' hw' => writeString_any (L0 := [blk b1 [.int .i64 d.w, .int .i64 d.up, .int .i64 d.dn, .slice p1 d.ss.length p2, .slice r1 d.ls.length r2] 30]) b none (none, 0) [] hh w' (.inl rfl) (by simp) (by omega) (by
    have g0 : St w (bBlk b none (none, 0) 0 :: blk b1 [.int .i64 d.w, .int .i64 d.up, .int .i64 d.dn, .slice p1 d.ss.length p2, .slice r1 d.ls.length r2] 30 :: []) w' := hw'
    exact St.inc (L' := [bBlk b none (none, 0) 0, bOwn (none, 0) 0 [], blk b1 [.int .i64 d.w, .int .i64 d.up, .int .i64 d.dn, .slice p1 d.ss.length p2, .slice r1 d.ls.length r2] 30]) IncQ (St.own_nil (e := 5) (sz := 1) g0)))) (fun x0 => ?_)
  rw [List.nil_append]
  generalize hhg : hh.data.toList = HL at *
  have tS := fun i => flatMap_take_le (strokeL nb) d.ss i
  have tL := fun i => flatMap_take_le (fun l => (labelB nb l).data.toList) d.ls i
  rw [List.length_append, List.length_append] at hlen
  unfold strokesL labelsL at hlen ⊢
  repeat' (first | ((apply TX.tree)) | ((apply TT.fin)) | (refine W1 ?_) | (refine W2 (fun hc => ?_) (fun hc => ?_)) | (intro _))
  refine TC.loopA (ι := (Option Addr × Nat) × Nat) (x0, 0) (fun k r => (29, .int .i64 k.2) :: r)
    (fun k => St w [bBlk b (sf b) k.1 (HL ++ (d.ss.take k.2).flatMap (strokeL nb)).length, bOwn k.1 (HL ++ (d.ss.take k.2).flatMap (strokeL nb)).length (HL ++ (d.ss.take k.2).flatMap (strokeL nb)), blk b1 [.int .i64 d.w, .int .i64 d.up, .int .i64 d.dn, .slice p1 d.ss.length p2, .slice r1 d.ls.length r2] 30])
    (fun k => k.2 ≤ d.ss.length) (fun k => d.ss.length - k.2) KpA SubA (fun w' hw => ?_) (Nat.zero_le _) ?_
  · rw [List.take_zero, List.flatMap_nil, List.append_nil]
    exact hw
  · rintro ⟨x, i⟩ hi
    simp only at hi ⊢
    by_cases hlt : i < d.ss.length
    · have hck : decide ((i : Int) < (d.ss.length : Int)) = true := decide_eq_true (by omega)
      have hgx : d.ss[i]? = some d.ss[i] := List.getElem?_eq_getElem hlt
      have hmem := List.getElem_mem hlt
      have htk : d.ss.take (i + 1) = d.ss.take i ++ [d.ss[i]] := List.take_succ_eq_append_getElem hlt
      have hb1 := tS (i + 1)
      generalize d.ss[i] = s at *
      obtain ⟨hsn, hsp⟩ := hss s hmem
      obtain ⟨cs, hcs, _, rfl, Ai, ci, prow, rfl, hAi, hpi, hci⟩ := hs.get hgx
      have hA' : p1 = some (p1.getD default) := hA.some_ (by omega)
      rw [htk, flatMap_snoc, List.length_append] at hb1
      have hsl : (strokeL nb s).length = 6 + (ptsL nb s).length + 1 := by unfold strokeL; rw [List.length_append, List.length_append]; rfl
      have tP := fun j => flatMap_take_le (fun p => ((⟨#[32]⟩ : ByteArray) ++ ptB nb p).data.toList) s j
      generalize hO : HL ++ (d.ss.take i).flatMap (strokeL nb) = O at *
      have hOl : O.length = HL.length + ((d.ss.take i).flatMap (strokeL nb)).length := by rw [← hO, List.length_append]
      repeat' (first | (refine W1 ?_) | (refine W2 (fun hc => ?_) (fun hc => ?_)) | (intro _))
      refine T.callM (f := 28) (val := fun _ : Option Addr × Nat => .tuple #[.int .i64 ((⟨#[115, 116, 114, 111, 107, 101]⟩ : ByteArray).size : Int), .nilIface]) rfl rfl (fun w' hw' => writeString_any (L0 := [blk b1 [.int .i64 d.w, .int .i64 d.up, .int .i64 d.dn, .slice p1 d.ss.length p2, .slice r1 d.ls.length r2] 30]) b (sf b) x O ⟨#[115, 116, 114, 111, 107, 101]⟩ w' (.inr rfl) (by omega) (by decide) hw') (fun x1 => ?_)
      repeat' (first | (refine W1 ?_) | (refine W2 (fun hc => ?_) (fun hc => ?_)) | (intro _))
      refine TC.loopA (ι := (Option Addr × Nat) × Nat) (x1, 0) (fun k r => (36, .int .i64 k.2) :: r)
        (fun k => St w [bBlk b (sf b) k.1 (O ++ [115, 116, 114, 111, 107, 101] ++ ptsL nb (s.take k.2)).length, bOwn k.1 (O ++ [115, 116, 114, 111, 107, 101] ++ ptsL nb (s.take k.2)).length (O ++ [115, 116, 114, 111, 107, 101] ++ ptsL nb (s.take k.2)), blk b1 [.int .i64 d.w, .int .i64 d.up, .int .i64 d.dn, .slice p1 d.ss.length p2, .slice r1 d.ls.length r2] 30])
        (fun k => k.2 ≤ s.length) (fun k => s.length - k.2) KpA SubA (fun w' hw => ?_) (Nat.zero_le _) ?_
      · rw [List.take_zero]
        unfold ptsL
        rw [List.flatMap_nil, List.append_nil]
        exact hw
      · rintro ⟨y, j⟩ hj
        simp only at hj ⊢
        have tPj : (ptsL nb (s.take j)).length ≤ (ptsL nb s).length := tP j
        by_cases hlj : j < s.length
        · have hck2 : decide ((j : Int) < (s.length : Int)) = true := decide_eq_true (by omega)
          have hgp : s[j]? = some s[j] := List.getElem?_eq_getElem hlj
          have hpm := List.getElem_mem hlj
          have htk2 : s.take (j + 1) = s.take j ++ [s[j]] := List.take_succ_eq_append_getElem hlj
          generalize s[j] = pt at *
          obtain ⟨cs2, hcs2, pv, rfl, hcp⟩ := hpi.get hgp
          have hpt := hsp pt hpm
          have hAi' : Ai = some (Ai.getD default) := hAi.some_ (by omega)
          obtain ⟨tt, htt⟩ : ∃ tt, (⟨#[32]⟩ : ByteArray) ++ ptB nb pt = tt := ⟨_, rfl⟩
          have htz := ptK_size hpt
          have htz2 : tt.size ≤ 82 := by rw [← htt, ByteArray.size_append, c2]; omega
          have hsh := fun w' (hk : K w') => rshowK K hK nb pv pt w' hk hcp hpt
          have hnx : ptsL nb (s.take (j + 1)) = ptsL nb (s.take j) ++ tt.data.toList := by unfold ptsL; rw [htk2, flatMap_snoc, htt]
          generalize ptB nb pt = pb at *
          repeat' (first | ((apply T.callV (f := 30); exact rfl; exact rfl; exact fun w' hw' => hsh w' (hK _ _ _ hk0 hw'))) | ((apply T.ev_; exact rfl; apply Ev.str_addE htt; exact rfl; exact rfl; omega)) | (refine W1 ?_) | (refine W2 (fun hc => ?_) (fun hc => ?_)) | (intro _))
          refine T.callM (f := 28) (val := fun _ : Option Addr × Nat => .tuple #[.int .i64 (tt.size : Int), .nilIface]) rfl rfl (fun w' hw' => writeString_any (L0 := [blk b1 [.int .i64 d.w, .int .i64 d.up, .int .i64 d.dn, .slice p1 d.ss.length p2, .slice r1 d.ls.length r2] 30]) b (sf b) y (O ++ [115, 116, 114, 111, 107, 101] ++ ptsL nb (s.take j)) tt w' (.inr rfl) (by rw [List.length_append, List.length_append]; simp only [List.length_cons, List.length_nil]; omega) (by omega) hw') (fun y1 => ?_)
          repeat' (first | (refine W1 ?_) | (refine W2 (fun hc => ?_) (fun hc => ?_)) | (intro _))
          refine TX.round (y1, j + 1) hlj (show s.length - (j + 1) < s.length - j by omega) SubA (fun w' hw => ?_)
          rw [hnx, ← List.append_assoc]
          exact hw
        have hck2 : decide ((j : Int) < (s.length : Int)) = false := decide_eq_false (by omega)
        obtain rfl : j = s.length := by omega
        rw [List.take_of_length_le (Nat.le_refl _)]
        repeat' (first | (refine W1 ?_) | (refine W2 (fun hc => ?_) (fun hc => ?_)) | (intro _))
        refine T.callM (f := 28) (val := fun _ : Option Addr × Nat => .tuple #[.int .i64 ((⟨#[10]⟩ : ByteArray).size : Int), .nilIface]) rfl rfl (fun w' hw' => writeString_any (L0 := [blk b1 [.int .i64 d.w, .int .i64 d.up, .int .i64 d.dn, .slice p1 d.ss.length p2, .slice r1 d.ls.length r2] 30]) b (sf b) y (O ++ [115, 116, 114, 111, 107, 101] ++ ptsL nb s) ⟨#[10]⟩ w' (.inr rfl) (by rw [List.length_append, List.length_append]; simp only [List.length_cons, List.length_nil]; omega) (by decide) hw') (fun y2 => ?_)
        repeat' (first | (refine W1 ?_) | (refine W2 (fun hc => ?_) (fun hc => ?_)) | (intro _))
        refine TX.round (y2, i + 1) hlt (show d.ss.length - (i + 1) < d.ss.length - i by omega) SubA (fun w' hw => ?_)
        have he : HL ++ (d.ss.take (i + 1)).flatMap (strokeL nb) = O ++ [115, 116, 114, 111, 107, 101] ++ ptsL nb s ++ (⟨#[10]⟩ : ByteArray).data.toList := by
          rw [htk, flatMap_snoc, ← List.append_assoc, hO]
          unfold strokeL
          simp only [List.append_assoc]
        rw [he]
        exact hw
    have hck : decide ((i : Int) < (d.ss.length : Int)) = false := decide_eq_false (by omega)
    obtain rfl : i = d.ss.length := by omega
    rw [List.take_of_length_le (Nat.le_refl _)]
    generalize hO : HL ++ d.ss.flatMap (strokeL nb) = O at *
    have hOl : O.length = HL.length + (d.ss.flatMap (strokeL nb)).length := by rw [← hO, List.length_append]
    repeat' (first | (refine W1 ?_) | (refine W2 (fun hc => ?_) (fun hc => ?_)) | (intro _))
    refine TC.loopA (ι := (Option Addr × Nat) × Nat) (x, 0) (fun k r => (50, .int .i64 k.2) :: r)
      (fun k => St w [bBlk b (sf b) k.1 (O ++ (d.ls.take k.2).flatMap (fun l => (labelB nb l).data.toList)).length, bOwn k.1 (O ++ (d.ls.take k.2).flatMap (fun l => (labelB nb l).data.toList)).length (O ++ (d.ls.take k.2).flatMap (fun l => (labelB nb l).data.toList)), blk b1 [.int .i64 d.w, .int .i64 d.up, .int .i64 d.dn, .slice p1 d.ss.length p2, .slice r1 d.ls.length r2] 30])
      (fun k => k.2 ≤ d.ls.length) (fun k => d.ls.length - k.2) KpA SubA (fun w' hw => ?_) (Nat.zero_le _) ?_
    · rw [List.take_zero, List.flatMap_nil, List.append_nil]
      exact hw
    · rintro ⟨x, i⟩ hi2
      simp only at hi2 ⊢
      by_cases hlt2 : i < d.ls.length
      · have hck2 : decide ((i : Int) < (d.ls.length : Int)) = true := decide_eq_true (by omega)
        have hgx : d.ls[i]? = some d.ls[i] := List.getElem?_eq_getElem hlt2
        have hmem := List.getElem_mem hlt2
        have htk : d.ls.take (i + 1) = d.ls.take i ++ [d.ls[i]] := List.take_succ_eq_append_getElem hlt2
        have hb1 := tL (i + 1)
        generalize d.ls[i] = lb at *
        obtain ⟨htz, hts, hsh0⟩ := hls lb hmem
        obtain ⟨cs, hcs, za, zb, rfl, hcp⟩ := hl.get hgx
        have hB' : r1 = some (r1.getD default) := hB.some_ (by omega)
        rw [htk, flatMap_snoc, List.length_append] at hb1
        have c4 : (⟨#[108, 97, 98, 101, 108, 32]⟩ : ByteArray).size = 6 := rfl
        have hsh := hsh0 _ hcp
        obtain ⟨u1, v1⟩ : ∃ u1, (⟨#[108, 97, 98, 101, 108, 32]⟩ : ByteArray) ++ ptB nb lb.1 = u1 := ⟨_, rfl⟩
        obtain ⟨u2, v2⟩ : ∃ u2, u1 ++ (⟨#[32]⟩ : ByteArray) = u2 := ⟨_, rfl⟩
        obtain ⟨u3, v3⟩ : ∃ u3, u2 ++ lb.2 = u3 := ⟨_, rfl⟩
        obtain ⟨u4, v4⟩ : ∃ u4, u3 ++ (⟨#[10]⟩ : ByteArray) = u4 := ⟨_, rfl⟩
        have y1 : u1.size ≤ 87 := by rw [← v1, ByteArray.size_append, c4]; omega
        have y2 : u2.size ≤ 88 := by rw [← v2, ByteArray.size_append, c2]; omega
        have y3 : u3.size ≤ 100000088 := by rw [← v3, ByteArray.size_append]; omega
        have y4 : u4.size ≤ 100000089 := by rw [← v4, ByteArray.size_append, c3]; omega
        have hlab : labelB nb lb = u4 := by unfold labelB; rw [v1, v2, v3, v4]
        rw [hlab] at hb1
        have hul := bytes_len u4
        generalize ptB nb lb.1 = pb at *
        generalize hO2 : O ++ (d.ls.take i).flatMap (fun l => (labelB nb l).data.toList) = O2 at *
        have hO2l : O2.length = O.length + ((d.ls.take i).flatMap (fun l => (labelB nb l).data.toList)).length := by rw [← hO2, List.length_append]
        repeat' (first | ((apply T.ev_; exact rfl; apply Ev.elem (i := i); exact rfl; exact rfl; (exact fun w' hw' => St.old_arr hw' hB); exact hcs; exact rfl)) | ((refine TC.lexT [(9, .loud)] (.seg [0, 1, 5, 6, 2, 3, 4, 7, 8, 9] .fin) mixed (by kernel_rfl) (TT.seg rfl ?_))) | ((apply TL.kcallV (d := 56) (f := 30); exact rfl; (intro w' hw'; exact hsh w' (hK _ _ _ hk0 hw')); exact rfl; exact rfl; exact DropA)) | ((apply TL.pure_ (d := 57); exact rfl; exact rfl; apply Ev.str_addE v1; exact rfl; exact rfl; omega)) | ((apply TL.pure_ (d := 58); exact rfl; exact rfl; apply Ev.str_addE v2; exact rfl; exact rfl; omega)) | ((apply TL.pure_ (d := 61); exact rfl; exact rfl; apply Ev.str_addE v3; exact rfl; exact rfl; omega)) | ((apply TL.pure_ (d := 62); exact rfl; exact rfl; apply Ev.str_addE v4; exact rfl; exact rfl; omega)) | (refine W1 ?_) | (refine W2 (fun hc => ?_) (fun hc => ?_)) | (intro _))
        rename_i b9
        refine TL.lcall rfl rfl (Cl.callM (f := 28) (val := fun _ : Option Addr × Nat => .tuple #[.int .i64 (u4.size : Int), .nilIface]) rfl (fun w' hw' => writeString_any (L0 := [blk b1 [.int .i64 d.w, .int .i64 d.up, .int .i64 d.dn, .slice p1 d.ss.length p2, .slice r1 d.ls.length r2] 30, blk b9 [.complex .f64 za zb, .string lb.2] 58]) b (sf b) x O2 u4 w' (.inr rfl) (by omega) (by omega) (by
          have g0 : St w (blk b9 [.complex .f64 za zb, .string lb.2] 58 :: bBlk b (sf b) x O2.length :: bOwn x O2.length O2 :: blk b1 [.int .i64 d.w, .int .i64 d.up, .int .i64 d.dn, .slice p1 d.ss.length p2, .slice r1 d.ls.length r2] 30 :: []) w' := hw'
          exact St.inc IncQ g0))) (fun x2 => ?_)
        repeat' (first | ((apply TX.tree)) | ((apply TT.fin)) | (refine W1 ?_) | (refine W2 (fun hc => ?_) (fun hc => ?_)) | (intro _))
        refine TX.round (x2, i + 1) hlt2 (show d.ls.length - (i + 1) < d.ls.length - i by omega) SubA (fun w' hw => ?_)
        have he : O ++ (d.ls.take (i + 1)).flatMap (fun l => (labelB nb l).data.toList) = O2 ++ u4.data.toList := by
          rw [htk, flatMap_snoc, ← List.append_assoc, hO2, hlab]
        rw [he]
        exact St.inc IncQ hw
      have hck2 : decide ((i : Int) < (d.ls.length : Int)) = false := decide_eq_false (by omega)
      obtain rfl : i = d.ls.length := by omega
      rw [List.take_of_length_le (Nat.le_refl _)]
      generalize hF : O ++ d.ls.flatMap (fun l => (labelB nb l).data.toList) = F at *
      have hFl : F.length = O.length + (d.ls.flatMap (fun l => (labelB nb l).data.toList)).length := by rw [← hF, List.length_append]
      have hF0 : F ≠ [] := fun e => by
        rw [e, List.length_nil] at hFl
        have : 1 ≤ hh.size := by rw [← q6, ByteArray.size_append, c3]; omega
        omega
      repeat' (first | (refine W1 ?_) | (refine W2 (fun hc => ?_) (fun hc => ?_)) | (intro _))
      refine T.callM (f := 31) (val := fun _ : Unit => .string ⟨F.toArray⟩) (LL := fun _ => [blk b1 [.int .i64 d.w, .int .i64 d.up, .int .i64 d.dn, .slice p1 d.ss.length p2, .slice r1 d.ls.length r2] 30]) rfl rfl (fun w' hw' => bstr_any (L0 := [blk b1 [.int .i64 d.w, .int .i64 d.up, .int .i64 d.dn, .slice p1 d.ss.length p2, .slice r1 d.ls.length r2] 30]) b (sf b) x F w' hF0 (by omega) hw') (fun _ => ?_)
      repeat' (first | (refine W1 ?_) | (refine W2 (fun hc => ?_) (fun hc => ?_)) | (intro _))
      exact TX.ret_tmp rfl rfl (fun w' hw => RetV.eq hw rfl)
/-! ### points between the whole ones -/
theorem run_floorC {P : Program} {a a' m : Nat} {t : Bool} {e : Int} (hr : Ieee.double.read a = .number t m e) (he : FloatKind.f64.encode ((Ieee.double.read a).integral .down) = a') : ∀ w, (Extern.MathFloor.toIntegral "math.archFloor" .down #[.float .f64 a]).run P w = .ok (.float .f64 a') w := by
  intro w
  have hd : FloatKind.f64.decode a = Ieee.double.read a := rfl
  rw [hr] at hd
  have e2 : Extern.MathFloor.toIntegral "math.archFloor" .down #[.float .f64 a] = Extern.MathFloor.toIntegral.match_1 (fun _ => Sem Value) (FloatKind.f64.decode a) _ _ := rfl
  rw [e2, hd, ← he, hr]
  rfl
theorem rwholeC {a a' m : Nat} {t : Bool} {e : Int} (x : Int) (hr : Ieee.double.read a = .number t m e) (he : FloatKind.f64.encode ((Ieee.double.read a).integral .down) = a') (h1 : Den a' x) (hx : x.natAbs < 2 ^ 53) (w : World) : Calls Tryd.prog 53 #[.float .f64 a] w (RetV w (.int .i64 x)) := by
  have h2 : ∀ w, Calls Tryd.prog 68 #[.float .f64 a] w (RetV w (.float .f64 a')) := by
    intro w
    have hf := run_floorC (P := Tryd.prog) hr he
    refine TC.calls (l := [.float .f64 a]) Tryd.func68 rfl Tryd.ntmps68 rfl (St.start w) ?_
    repeat' (first | ((apply T.ev_; exact rfl; exact Ev.ext_ (vs := [.float .f64 a]) cx_floor rfl hf)) | (refine W1 ?_) | (refine W2 (fun hc => ?_) (fun hc => ?_)) | (intro _))
    exact TX.ret_tmp rfl rfl (fun w' hw => RetV.eq hw rfl)
  refine TC.calls (l := [.float .f64 a]) Tryd.func53 rfl Tryd.ntmps53 rfl (St.start w) ?_
  have hI : I64 x := by unfold I64; omega
  have c1 : decide (9007199254740992 < x) = false := decide_eq_false (by omega)
  have c2 : decide (x < -9007199254740992) = false := decide_eq_false (by omega)
  repeat' (first | ((apply T.callV (f := 68); exact rfl; exact rfl; exact fun w' _ => h2 w')) | ((apply T.callV (f := 69); exact rfl; exact rfl; exact fun w' _ => isNaN_any a' x w' h1)) | ((apply T.ev_; exact rfl; exact (Ev.fcmpO rfl rfl (order53 h1)).1)) | ((apply T.ev_; exact rfl; exact (Ev.fcmpO rfl rfl (orderN53 h1)).2)) | ((apply T.ev_; exact rfl; exact Ev.conv_fi rfl h1 hI)) | (refine W1 ?_) | (refine W2 (fun hc => ?_) (fun hc => ?_)) | (intro _))
  exact TX.ret_tmp rfl rfl (fun w' hw => RetV.eq hw rfl)
theorem whole15 (w : World) : Calls Tryd.prog 53 #[.float .f64 4609434218613702656] w (RetV w (.int .i64 1)) :=
  rwholeC (a' := 4607182418800017408) (t := false) (m := 6755399441055744) (e := -52) 1 (by decide +kernel) (by decide +kernel) den1 (by decide) w
theorem denN1 : Den 13830554455654793216 (-1) := den_of (s := true) (n := 1) (by decide) (by decide +kernel) rfl (by decide) (by decide)
theorem wholeN05 (w : World) : Calls Tryd.prog 53 #[.float .f64 13826050856027422720] w (RetV w (.int .i64 (-1))) :=
  rwholeC (a' := 13830554455654793216) (t := true) (m := 4503599627370496) (e := -53) (-1) (by decide +kernel) (by decide +kernel) denN1 (by decide) w
end Go.Proofs.YtalnmednhhimhaaDoor
