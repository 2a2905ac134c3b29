/-
  Package bonsairef05, walked.
-/
import Derived.Test.YtlhkkngpppcfoaaDoorExprWalk
import Derived.Test.YtlhkkngpppcfoaaDoorExprPure
import Derived.Test.YtlhkkngpppcfoaaDoorRefKids
import Derived.Test.YtlhkkngpppcfoaaDoorRefTells
set_option linter.all false
namespace Go.Bonsai
open Go Go.Sl Go.RowKit
/-- trees that may be read, by their cells -/
def hSee (K : List (List Value × Tre)) : HP := ⟨fun S w => ∀ p ∈ K, RTreeC S w p.1 p.2, fun h hh p hp => (hh p hp).mono h, fun h hh p hp => (hh p hp).loc h⟩
theorem hSee_sub {S : Nat → Prop} {w : World} {K K' : List (List Value × Tre)} (h : (hSee K).on S w) (hs : ∀ p ∈ K', p ∈ K) : (hSee K').on S w := fun p hp => h p (hs p hp)
theorem hSee_join {S S' : Nat → Prop} {w : World} {K K' : List (List Value × Tre)} (h : (hSee K).on S w) (h' : (hSee K').on S' w) : (hSee (K ++ K')).on (fun b => S b ∨ S' b) w := fun p hp => by
  rcases List.mem_append.1 hp with hp | hp
  · exact (h p hp).mono fun _ h => .inl h
  · exact (h' p hp).mono fun _ h => .inr h
theorem zip_mem {α β : Type} {l : List α} {m : List β} {i : Nat} {a : α} {b : β} (h1 : l[i]? = some a) (h2 : m[i]? = some b) : (a, b) ∈ l.zip m := by
  refine List.mem_iff_getElem?.2 ⟨i, ?_⟩
  rw [List.getElem?_zip_eq_some]
  exact ⟨h1, h2⟩
theorem zip_get {α β : Type} {l : List α} {m : List β} {p : α × β} (h : p ∈ l.zip m) : ∃ i : Nat, l[i]? = some p.1 ∧ m[i]? = some p.2 := by
  obtain ⟨i, hi⟩ := List.mem_iff_getElem?.1 h
  exact ⟨i, List.getElem?_zip_eq_some.1 hi⟩
theorem hSee_TR {S : Nat → Prop} {w : World} {rows : List (List Value)} {ts : List Tre} (h : (hTR rows ts).on S w) : (hSee (rows.zip ts)).on S w := fun p hp => by
  obtain ⟨i, h1, h2⟩ := zip_get hp
  exact (hTR_all h).2 i _ _ h1 h2
theorem St.see {w0 w : World} {L : List HP} {K : List (List Value × Tre)} {cs : List Value} {t : Tre} (h : St w0 L w) (ha : At L (hSee K)) (hm : (cs, t) ∈ K) : RTreeC (Old w) w cs t := h.at_all ha _ hm
theorem RTrees.see {w0 w : World} {L : List HP} {e n c : Nat} {A : Option Addr} {rows : List (List Value)} {ts : List Tre} {K : List (List Value × Tre)} (hl : ts.length = n) (h : St w0 L w) (ha : At L (own e 2 A n c rows)) (hb : At L (hSee K)) (hK : ∀ p ∈ rows.zip ts, p ∈ K) : RTrees (Old w) w (.slice A n c) ts := by
  subst hl
  have h1 := St.own_arr h ha
  exact ⟨A, c, rows, rfl, h1, ⟨h1.1, fun i cs t hc ht => St.see h hb (hK _ (zip_mem hc ht))⟩, own.cap (h.at_all ha)⟩
theorem tree_facts {m : Nod} {j : Fo} (h : (Fo.cons m j .nil).fb) : rightP (treT (.cons m j .nil)) = true ∧ rootP (treT (.cons m j .nil)) = m ∧ kidsP (treT (.cons m j .nil)) = j.trees := by
  have hr : rightP (treT (.cons m j .nil)) = true := right_tree rfl h.1
  have hf : foT (treT (.cons m j .nil)) = .cons m j .nil := foT_tree rfl h.2
  obtain ⟨F, hF⟩ := root_fo hr
  rw [hf] at hF
  injection hF with h1
  exact ⟨hr, h1.symm, by rw [kidsP, if_pos hr, hf]; rfl⟩
theorem tree_kids (F : Fo) (h : F.size ≤ bigN) : (allKids (treT F).nodes).length ≤ bigL := by
  have h1 := allKids_treT F
  rw [treT_len] at h1
  have : bigN ≤ bigL := by decide
  omega
end Go.Bonsai
namespace Go.Proofs.YtlhkkngpppcfoaaDoor
open Go Go.Sl Go.RowKit Go.Bonsai
set_option linter.unusedVariables false
set_option linter.unusedSimpArgs false

/-- trees that may be read, handed back with what is theirs -/
abbrev RetM (w0 : World) (L0 : List HP) (l : List Tre) (e : Ending) (w' : World) : Prop :=
  ∃ x : (Option Addr × Nat) × Nat × List (List Value), e = .returned (.slice x.1.1 l.length x.1.2) ∧ St w0 (own x.2.1 2 x.1.1 l.length x.1.2 x.2.2 :: hSee (x.2.2.zip l) :: L0) w'

set_option maxHeartbeats 4000000 in
theorem ropen_any (k : Int) : ∀ (N : Nat) (K : Fo), K.size < N → K.fb → K.dwf → K.size ≤ 100000 → ∀ {w0 : World} {L0 : List HP} (A : Option Addr) (c e : Nat) (rows : List (List Value)) (w : World),
    St w0 (own e 2 A K.trees.length c rows :: hSee (rows.zip K.trees) :: L0) w → Calls Tryd.prog 99 #[.int .u8 k, .slice A K.trees.length c] w (RetM w0 L0 (K.openR k).trees) := by
  intro N
  induction N with
  | zero => intro K hK; omega
  | succ N ih =>
  intro K hKN hfb hdw hsz w0 L0 A c e rows w hw
  refine TC.calls (l := [.int .u8 k, .slice A K.trees.length c]) (M := St w0 (own e 2 A K.trees.length c rows :: hSee (rows.zip K.trees) :: L0)) Tryd.func99 rfl Tryd.ntmps99 rfl hw ?_
  have hKl := Fo.trees_len K
  have hKs := Fo.len_le K
  have hrl : rows.length = K.trees.length := (St.own_arr hw .here).1
  repeat' (first | (refine W1 ?_) | (refine W2 (fun hc => ?_) (fun hc => ?_)) | (intro _))
  refine TC.loopA (ι := (Fo × Fo) × Nat × (Option Addr × Nat) × List (List Value)) ((.nil, K), 0, (none, 0), [])
    (fun q r => (6, .int .i64 q.2.1) :: (5, .slice q.2.2.1.1 (q.1.1.openR k).trees.length q.2.2.1.2) :: r)
    (fun q => St w0 (own 24 2 q.2.2.1.1 (q.1.1.openR k).trees.length q.2.2.1.2 q.2.2.2 :: hSee (rows.zip K.trees ++ q.2.2.2.zip (q.1.1.openR k).trees) :: own e 2 A K.trees.length c rows :: L0))
    (fun q => q.1.1.app q.1.2 = K ∧ q.2.1 = q.1.1.len) (fun q => q.1.2.len) KpA SubA (fun w' hw => ?_) ⟨rfl, rfl⟩ ?_
  · have h1 := St.own_nil (e := 24) (sz := 2) hw
    have h2 := St.inc (L' := hSee (rows.zip K.trees) :: own 24 2 none 0 0 [] :: own e 2 A K.trees.length c rows :: L0) IncQ h1
    have h3 := St.weak (H' := hSee (rows.zip K.trees ++ ([] : List (List Value)).zip ((Fo.nil.openR k).trees))) (fun S w h => hSee_sub h (fun p hp => by simpa using hp)) h2
    exact h3.swap
  rintro ⟨⟨A1, B1⟩, i, ⟨A2, c2⟩, orows⟩ ⟨hAB, hi⟩
  simp only at hAB hi ⊢
  refine TC.fact (fun w hw => (St.own_arr hw AtA).1) (fun hol : orows.length = (A1.openR k).trees.length => ?_)
  have hosz := Fo.openR_len (k := k) A1
  rw [← Fo.trees_len] at hosz
  have hA1s : A1.size + B1.size = K.size := by rw [← hAB, Fo.size_app]
  cases B1 with
  | nil =>
    rw [Fo.appN] at hAB
    subst hAB
    have hck : decide ((i : Int) < (A1.trees.length : Int)) = false := by simp; omega
    repeat' (first | (refine W1 ?_) | (refine W2 (fun hc => ?_) (fun hc => ?_)) | (intro _))
    refine TX.ret_tmp rfl rfl (fun w' hw => ⟨((A2, c2), 24, orows), rfl, ?_⟩)
    have h1 := St.inc (L' := hSee (rows.zip A1.trees ++ orows.zip (A1.openR k).trees) :: own 24 2 A2 (A1.openR k).trees.length c2 orows :: L0) IncQ hw
    have h2 := St.weak (H' := hSee (orows.zip (A1.openR k).trees)) (fun S w h => hSee_sub h (fun p hp => List.mem_append_right _ hp)) h1
    exact h2.swap
  | cons m j r =>
    have hKt : K.trees = A1.trees ++ treT (.cons m j .nil) :: r.trees := by rw [← hAB, Fo.trees_app]; rfl
    have hAl := Fo.trees_len A1
    have hlt : i < K.trees.length := by rw [hKt, List.length_append, List.length_cons]; omega
    have hck : decide ((i : Int) < (K.trees.length : Int)) = true := by simp [hlt]
    have hgt : K.trees[i]? = some (treT (.cons m j .nil)) := by rw [hKt, List.getElem?_append_right (by omega), hi, hAl, Nat.sub_self]; rfl
    have hgr : rows[i]? = some rows[i] := List.getElem?_eq_getElem (by omega)
    have hmem := zip_mem hgr hgt
    have hfb2 : (Fo.cons m j r).fb := (Fo.fb_app.1 (by rw [hAB]; exact hfb)).2
    have hfb3 := Fo.fb_cons.1 hfb2
    have hdw2 : (Fo.cons m j r).dwf := ((Fo.dwf_app _ _).1 (by rw [hAB]; exact hdw)).2
    obtain ⟨htr, htm, htk⟩ := tree_facts (Fo.fb_cons.2 ⟨hfb3.1, Fo.fb_nil⟩)
    simp only [Fo.size] at hA1s
    have hwt : (treT (.cons m j .nil)).wf := treT_wf ⟨hdw2.1, hdw2.2.1, trivial⟩ (by simp only [Fo.size]; unfold bigN; omega)
    have hkt := tree_kids (.cons m j .nil) (by simp only [Fo.size]; unfold bigN; omega)
    generalize rows[i] = cs at *
    generalize ht : treT (.cons m j .nil) = t at *
    refine TC.fact (φ := ∃ Kt ct, cs = [.slice Kt t.nodes.length ct, .int .i64 t.root]) (fun w hw => ?_) (fun hcs => ?_)
    · obtain ⟨Kt, ct, e1, _⟩ := St.see hw (.there .here) (List.mem_append_left _ hmem)
      exact ⟨Kt, ct, e1⟩
    obtain ⟨Kt, ct, rfl⟩ := hcs
    have hrd : ∀ {L : List HP} {w' : World}, St w0 L w' → At L (hSee (rows.zip K.trees ++ orows.zip (A1.openR k).trees)) → RTree (Old w') w' (.agg #[.slice Kt t.nodes.length ct, .int .i64 t.root]) t := fun h ha => (St.see h ha (List.mem_append_left _ hmem)).tree
    refine TC.fact (φ := A = some (A.getD default)) (fun w hw => (St.own_arr (A := A) (n := K.trees.length) (c := c) (rows := rows) hw AtA).some_ (by omega)) (fun hA => ?_)
    repeat' (first | (refine W1 ?_) | (refine W2 (fun hc => ?_) (fun hc => ?_)) | (intro _))
    refine T.callV rfl rfl (fun w' hw' => rroot_any _ t w' (hrd hw' AtA) hwt hkt) ?_
    rw [htm]
    by_cases hmk : m.kind = k
    · have hd1 : decide (m.kind = k) = true := by simp [hmk]
      have e1 : (A1.app (.cons m j .nil)).openR k = (A1.openR k).app (j.openR k) := by
        rw [Fo.openR_app]; simp only [Fo.openR, if_pos hmk, Fo.appN]
      have hjs := Fo.openR_size (k := k) j
      have hjl := Fo.openR_len (k := k) j
      rw [← Fo.trees_len] at hjl
      repeat' (first | (refine W1 ?_) | (refine W2 (fun hc => ?_) (fun hc => ?_)) | (intro _))
      rename_i b7
      refine T.callR rfl rfl (fun w' hw' => by have h := rkids_any _ t w' (hrd hw' AtA) hwt hkt; rw [htk] at h; exact h) (fun q _ => ?_)
      refine T.ex (fun w hw => St.openTO (A := q.1) (c := q.2) (ts := j.trees) DelA hw) (fun y => ?_)
      obtain ⟨ey, rows2⟩ := y
      dsimp only
      refine T.callM (val := fun x : (Option Addr × Nat) × Nat × List (List Value) => .slice x.1.1 (j.openR k).trees.length x.1.2) (LL := fun x => own x.2.1 2 x.1.1 (j.openR k).trees.length x.1.2 x.2.2 :: hSee (x.2.2.zip (j.openR k).trees) :: hSee (rows.zip K.trees ++ orows.zip (A1.openR k).trees) :: own 24 2 A2 (A1.openR k).trees.length c2 orows :: own e 2 A K.trees.length c rows :: L0) rfl rfl (fun w' hw' => ?_) (fun x => ?_)
      · have h1 := St.inc (L' := hTR rows2 j.trees :: own ey 2 q.1 j.trees.length q.2 rows2 :: hSee (rows.zip K.trees ++ orows.zip (A1.openR k).trees) :: own 24 2 A2 (A1.openR k).trees.length c2 orows :: own e 2 A K.trees.length c rows :: L0) IncQ hw'
        have h2 := St.weak (H' := hSee (rows2.zip j.trees)) (fun S w h => hSee_TR h) h1
        exact ih j (by omega) hfb3.1.2.2 hdw2.2.1 (by omega) q.1 q.2 ey rows2 w' h2.swap
      obtain ⟨⟨A3, c3⟩, ex, rows3⟩ := x
      dsimp only
      have e2 : ((A1.app (.cons m j .nil)).openR k).trees = (A1.openR k).trees ++ (j.openR k).trees := by rw [e1, Fo.trees_app]
      have e3 : (A1.openR k).trees.length + (j.openR k).trees.length = ((A1.app (.cons m j .nil)).openR k).trees.length := by rw [e2, List.length_append]
      refine T.append (rows := orows) (news := rows3) rfl rfl rfl DelA (fun w hw => St.own_arr hw AtA) (fun w hw r hr => ?_) (by unfold maxLen; omega) (by omega) (fun A4 c4 => ?_)
      · obtain ⟨y, hy⟩ := List.mem_iff_getElem?.1 hr
        have hyl := (List.getElem?_eq_some_iff.1 hy).1
        have h3l := (St.own_arr (A := A3) (n := (j.openR k).trees.length) (rows := rows3) hw AtA).1
        obtain ⟨Ky, cy, e5, _⟩ := St.see hw (K := rows3.zip (j.openR k).trees) AtA (zip_mem hy (List.getElem?_eq_getElem (by omega)))
        rw [e5]; rfl
      rw [e3]
      repeat' (first | (refine W1 ?_) | (refine W2 (fun hc => ?_) (fun hc => ?_)) | (intro _))
      refine TX.round ((A1.app (.cons m j .nil), r), i + 1, (A4, c4), orows ++ rows3) ⟨by show (A1.app _).app r = K; rw [Fo.appA, ← hAB]; rfl, by show i + 1 = (A1.app _).len; rw [Fo.lenA, hi]; rfl⟩ (show r.len < r.len + 1 by omega) SubA (fun w' hw => ?_)
      have h3l := (St.own_arr hw (by exact .here)).1
      have g1 := St.inc (L' := hSee (rows.zip K.trees ++ orows.zip (A1.openR k).trees) :: hSee (rows3.zip (j.openR k).trees) :: own 24 2 A4 ((A1.app (.cons m j .nil)).openR k).trees.length c4 (orows ++ rows3) :: own e 2 A K.trees.length c rows :: L0) IncQ hw
      have g2 := St.join (K := hSee ((rows.zip K.trees ++ orows.zip (A1.openR k).trees) ++ rows3.zip (j.openR k).trees)) (fun S S' w h h' => hSee_join h h') g1
      have g3 := St.weak (H' := hSee (rows.zip K.trees ++ (orows ++ rows3).zip ((A1.app (.cons m j .nil)).openR k).trees)) (fun S w h => hSee_sub h (fun p hp => by
        rw [e2, List.zip_append hol] at hp
        rwa [List.append_assoc])) g2
      exact St.inc IncQ g3
    · have hd1 : decide (m.kind = k) = false := by simp [hmk]
      by_cases hdr : k = 4 ∧ m.kind = 0
      · have hd2 : (!decide (k = 4)) = false := by simp [hdr.1]
        have hd3 : (!decide (m.kind = 0)) = false := by simp [hdr.2]
        have e1 : (A1.app (.cons m j .nil)).openR k = A1.openR k := by
          rw [Fo.openR_app]; simp only [Fo.openR, if_neg hmk, if_pos hdr, Fo.appN]
        repeat' (first | (refine W1 ?_) | (refine W2 (fun hc => ?_) (fun hc => ?_)) | (intro _))
        refine TX.round ((A1.app (.cons m j .nil), r), i + 1, (A2, c2), orows) ⟨by show (A1.app _).app r = K; rw [Fo.appA, ← hAB]; rfl, by show i + 1 = (A1.app _).len; rw [Fo.lenA, hi]; rfl⟩ (show r.len < r.len + 1 by omega) ?_ (fun w' hw => ?_)
        · dsimp only
          rw [e1]
          exact SubA
        · dsimp only
          rw [e1]
          exact St.inc IncQ hw
      · have e1 : (A1.app (.cons m j .nil)).openR k = (A1.openR k).app (.cons m j .nil) := by
          rw [Fo.openR_app]; simp only [Fo.openR, if_neg hmk, if_neg hdr]
        have e2 : ((A1.app (.cons m j .nil)).openR k).trees = (A1.openR k).trees ++ [t] := by rw [e1, Fo.trees_app, ← ht]; rfl
        have e3 : (A1.openR k).trees.length + 1 = ((A1.app (.cons m j .nil)).openR k).trees.length := by rw [e2, List.length_append]; rfl
        repeat' (first | (refine TC.holdR 8 ?_) | (refine W1 ?_) | (refine W2 (fun hc => ?_) (fun hc => ?_)) | (intro _))
        rename_i b7
        refine ⟨TC.cutA (ι := Unit) (fun _ r => (38, .bool true) :: r) (fun _ => St w0 (blk b7 (m.cells (.slice none 0 0)) 34 :: own 24 2 A2 (A1.openR k).trees.length c2 orows :: hSee (rows.zip K.trees ++ orows.zip (A1.openR k).trees) :: own e 2 A K.trees.length c rows :: L0)) KpA ?_ (fun _ => ?_)⟩
        · by_cases h4 : k = 4
          · have hd2 : (!decide (k = 4)) = false := by simp [h4]
            have hd3 : (!decide (m.kind = 0)) = true := by simp; exact fun h => hdr ⟨h4, h⟩
            repeat' (first | (refine W1 ?_) | (refine W2 (fun hc => ?_) (fun hc => ?_)) | (intro _))
            refine TX.join () ?_ (fun w' hw => St.inc IncQ hw)
            refine ⟨congrArg (fun b => some (Value.bool b)) hd3, ?_⟩
            exact SubA
          · have hd2 : (!decide (k = 4)) = true := by simp [h4]
            repeat' (first | (refine W1 ?_) | (refine W2 (fun hc => ?_) (fun hc => ?_)) | (intro _))
            refine TX.join () ?_ (fun w' hw => St.inc IncQ hw)
            exact SubA
        · repeat' (first | (refine W1 ?_) | (refine W2 (fun hc => ?_) (fun hc => ?_)) | (intro _))
          refine T.append (rows := orows) (news := [[.slice Kt t.nodes.length ct, .int .i64 t.root]]) rfl rfl rfl DelA (fun w hw => St.own_arr hw AtA) (fun w hw r hr => by simp at hr; subst hr; rfl) (by unfold maxLen; omega) (by omega) (fun A4 c4 => ?_)
          rw [e3]
          repeat' (first | (refine W1 ?_) | (refine W2 (fun hc => ?_) (fun hc => ?_)) | (intro _))
          refine TX.round ((A1.app (.cons m j .nil), r), i + 1, (A4, c4), orows ++ [[.slice Kt t.nodes.length ct, .int .i64 t.root]]) ⟨by show (A1.app _).app r = K; rw [Fo.appA, ← hAB]; rfl, by show i + 1 = (A1.app _).len; rw [Fo.lenA, hi]; rfl⟩ (show r.len < r.len + 1 by omega) SubA (fun w' hw => ?_)
          have g1 := St.inc (L' := hSee (rows.zip K.trees ++ orows.zip (A1.openR k).trees) :: own 24 2 A4 ((A1.app (.cons m j .nil)).openR k).trees.length c4 (orows ++ [[.slice Kt t.nodes.length ct, .int .i64 t.root]]) :: own e 2 A K.trees.length c rows :: L0) IncQ hw
          have g3 := St.weak (H' := hSee (rows.zip K.trees ++ (orows ++ ([[.slice Kt t.nodes.length ct, .int .i64 t.root]] : List (List Value))).zip ((A1.app (.cons m j .nil)).openR k).trees)) (fun S w h => hSee_sub h (fun p hp => by
            rw [e2, List.zip_append hol, ← List.append_assoc] at hp
            rcases List.mem_append.1 hp with hp | hp
            · exact hp
            · simp at hp
              rw [hp]
              exact List.mem_append_left _ hmem)) g1
          exact St.inc IncQ g3
end Go.Proofs.YtlhkkngpppcfoaaDoor

namespace Go.Bonsai
open Go Go.Sl Go.RowKit
theorem wf_trees {K : Fo} (hdw : K.dwf) (hsz : K.size ≤ 100000) : K.trees.length ≤ bigN ∧ (∀ t ∈ K.trees, t.wf) ∧ tot K.trees + 1 ≤ bigN ∧ ∀ t ∈ K.trees, (allKids t.nodes).length ≤ bigL := by
  have h1 := Fo.len_le K
  refine ⟨by rw [Fo.trees_len]; unfold bigN; omega, trees_wf hdw (by unfold bigN; omega), by rw [trees_tot]; unfold bigN; omega, ?_⟩
  clear h1
  induction K with
  | nil => intro t ht; simp [Fo.trees] at ht
  | cons m j r _ ih =>
    intro t ht
    simp only [Fo.size] at hsz
    rcases List.mem_cons.1 ht with rfl | ht
    · exact tree_kids _ (by simp only [Fo.size]; unfold bigN; omega)
    · exact ih hdw.2.2 (by omega) t ht
theorem putF_seq {K : Fo} : putF seqN0 K = (treT (Fo.join seqN0 emptyN K.parts), true) := rfl
theorem putF_cho {K : Fo} : putF choN0 K = (treT (Fo.join choN0 setN0 K.ways), true) := by
  unfold putF
  rw [if_pos (by rfl), Fo.put_cho]
end Go.Bonsai
namespace Go.Proofs.YtlhkkngpppcfoaaDoor
open Go Go.Sl Go.RowKit Go.Bonsai
set_option linter.unusedVariables false
set_option linter.unusedSimpArgs false

/-- a new tree, what was there given away -/
abbrev RetMB (w0 : World) (L0 : List HP) (r : Tre × Bool) (e : Ending) (w' : World) : Prop :=
  ∃ x : Option Addr × Nat, e = .returned (.tuple #[.agg #[.slice x.1 r.1.nodes.length x.2, .int .i64 r.1.root], .bool r.2]) ∧ St w0 (hNodes (.slice x.1 r.1.nodes.length x.2) r.1.nodes :: L0) w'
theorem rput_rest (n : Nod) (K : Fo) (hb : n.kids = []) (h4 : n.kind ≠ 4) (h5 : n.kind ≠ 5) (hn : n.wf) (hfb : K.fb) (hdw : K.dwf) (hsz : K.size ≤ 100000) {w0 : World} {L0 : List HP} (A : Option Addr) (c e : Nat) (rows : List (List Value)) (kv : Value) (w : World)
    (hw : St w0 (own e 2 A K.trees.length c rows :: hSee (rows.zip K.trees) :: L0) w) : Calls Tryd.prog 98 #[.agg (n.cells kv).toArray, .slice A K.trees.length c] w (RetMB w0 L0 (putF n K)) := by
  refine TC.calls (l := [.agg (n.cells kv).toArray, .slice A K.trees.length c]) (M := St w0 (own e 2 A K.trees.length c rows :: hSee (rows.zip K.trees) :: L0)) Tryd.func98 rfl Tryd.ntmps98 rfl hw ?_
  obtain ⟨g1, g2, g3, g4⟩ := wf_trees hdw hsz
  obtain ⟨z, hz⟩ : ∃ z, z = putF n K := ⟨_, rfl⟩
  have hof : ofP n K.trees = z := by
    rw [ofP_put hb h4 h5 hfb, hz]
    have hfk : fitsK n K.len = fits n K.len := by unfold fitsK; rw [if_neg (by rintro (h | h); exact h4 h; exact h5 h)]
    unfold putF
    rw [hfk]
  rw [← hz]
  have d4 : (!decide (n.kind = 4)) = true := by simp [h4]
  have d5 : (!decide (n.kind = 5)) = true := by simp [h5]
  repeat' (first | (refine W1 ?_) | (refine W2 (fun hc => ?_) (fun hc => ?_)) | (intro _))
  refine T.callR rfl rfl (fun w' hw' => by have h := rof_any n kv _ K.trees w' hn (RTrees.see (e := e) (rows := rows) (K := rows.zip K.trees) rfl hw' AtA AtA (fun _ h => h)) g1 g2 g3 g4; rw [hof] at h; exact h) (fun q _ => ?_)
  repeat' (first | (refine W1 ?_) | (refine W2 (fun hc => ?_) (fun hc => ?_)) | (intro _))
  refine TX.ret_gen (rs := [.cell 4 24, .tmp 5]) (vs := [.agg #[.slice q.1 z.1.nodes.length q.2, .int .i64 z.1.root], .bool z.2]) rfl (.cell rfl (blk_res (cs := [.slice q.1 z.1.nodes.length q.2, .int .i64 z.1.root]) AtA rfl) (.tmp rfl .nil)) (fun w' hw => ?_)
  exact ⟨q, rfl, St.inc IncQ hw⟩

set_option maxHeartbeats 4000000 in
theorem rput_seq (K : Fo) (hfb : K.fb) (hok : K.ok) (hdw : K.dwf) (hsz : K.size ≤ 100000) {w0 : World} {L0 : List HP} (A : Option Addr) (c e : Nat) (rows : List (List Value)) (kv : Value) (w : World)
    (hw : St w0 (own e 2 A K.trees.length c rows :: hSee (rows.zip K.trees) :: L0) w) : Calls Tryd.prog 98 #[.agg (seqN0.cells kv).toArray, .slice A K.trees.length c] w (RetMB w0 L0 (treT (Fo.join seqN0 emptyN K.parts), true)) := by
  refine TC.calls (l := [.agg (seqN0.cells kv).toArray, .slice A K.trees.length c]) (M := St w0 (own e 2 A K.trees.length c rows :: hSee (rows.zip K.trees) :: L0)) Tryd.func98 rfl Tryd.ntmps98 rfl hw ?_
  have hf2 : (!fits seqN0 2) = false := by decide +kernel
  have hpf := Fo.fb_parts hfb
  have hpo := Fo.ok_parts hok
  have hpd : K.parts.dwf := by first | exact Fo.dwf_opn (Fo.dwf_drop0 hdw) | exact Fo.dwf_opn hdw
  have hps := Fo.parts_size K
  have hop : K.openR 4 = K.parts := Fo.openR_parts hok
  repeat' (first | (refine W1 ?_) | (refine W2 (fun hc => ?_) (fun hc => ?_)) | (intro _))
  rename_i b2 b4
  refine T.callV rfl rfl (fun w' hw' => rfits_any seqN0 kv 2 w' seqN0_wf) ?_
  repeat' (first | (refine W1 ?_) | (refine W2 (fun hc => ?_) (fun hc => ?_)) | (intro _))
  refine T.callM (val := fun x : (Option Addr × Nat) × Nat × List (List Value) => .slice x.1.1 K.parts.trees.length x.1.2) (LL := fun x => own x.2.1 2 x.1.1 K.parts.trees.length x.1.2 x.2.2 :: hSee (x.2.2.zip K.parts.trees) :: blk b4 [.slice none 0 0, .int .i64 0] 24 :: blk b2 (seqN0.cells kv) 34 :: L0) rfl rfl (fun w' hw' => ?_) (fun x => ?_)
  · have h1 := St.inc (L' := own e 2 A K.trees.length c rows :: hSee (rows.zip K.trees) :: blk b4 [.slice none 0 0, .int .i64 0] 24 :: blk b2 (seqN0.cells kv) 34 :: L0) IncQ hw'
    have h2 := ropen_any 4 (K.size + 1) K (by omega) hfb hdw hsz A c e rows w' h1
    rw [hop] at h2
    exact h2
  obtain ⟨⟨A3, c3⟩, ex, rows3⟩ := x
  dsimp only
  obtain ⟨g1, g2, g3, g4⟩ := wf_trees hpd (by omega)
  generalize K.parts = P at *
  rcases Fo.join_cases seqN0 emptyN P with ⟨rfl, ej⟩ | ⟨a, b, rfl, ej⟩ | ⟨h2, ej⟩
  · rw [ej]
    have hd0 : decide ((Fo.nil.trees.length : Int) = 0) = true := rfl
    repeat' (first | (refine W1 ?_) | (refine W2 (fun hc => ?_) (fun hc => ?_)) | (intro _))
    refine T.callR rfl rfl (fun w' hw' => rleaf_any Nod.zero w' rfl) (fun q _ => ?_)
    repeat' (first | (refine W1 ?_) | (refine W2 (fun hc => ?_) (fun hc => ?_)) | (intro _))
    refine TX.ret_gen (rs := [.cell 4 24, .tmp 5]) (vs := [.agg #[.slice q.1 1 q.2, .int .i64 0], .bool true]) rfl (.cell rfl (blk_res (cs := [.slice q.1 1 q.2, .int .i64 0]) AtA rfl) (.tmp rfl .nil)) (fun w' hw => ?_)
    exact ⟨q, rfl, St.inc IncQ hw⟩
  · rw [ej]
    have hnt := NT.tree hpf hpo
    have hcl := hnt.clean
    have htt : (Fo.cons a b .nil).trees = [treT (.cons a b .nil)] := rfl
    have hwt := g2 (treT (.cons a b .nil)) (by rw [htt]; simp)
    have hkt := g4 (treT (.cons a b .nil)) (by rw [htt]; simp)
    rw [htt]
    clear htt g1 g2 g3 g4 hnt hpf hpo hpd hps hop ej
    generalize treT (.cons a b .nil) = t at *
    have hd0 : decide ((([t] : List Tre).length : Int) = 0) = false := by simp
    have hd1 : decide ((([t] : List Tre).length : Int) = 1) = true := by simp
    have hlx : 0 < ([t] : List Tre).length := by simp
    refine T.fact (fun w hw => (St.own_arr (A := A3) (n := ([t] : List Tre).length) (rows := rows3) hw AtA).1) (fun hrl : rows3.length = ([t] : List Tre).length => ?_)
    obtain ⟨r3, rfl⟩ := List.length_eq_one_iff.1 (show rows3.length = 1 by simpa using hrl)
    refine T.fact (φ := ∃ Kt ct, r3 = [.slice Kt t.nodes.length ct, .int .i64 t.root]) (fun w hw => ?_) (fun hcs => ?_)
    · obtain ⟨Kt, ct, e1, _⟩ := St.see hw (K := ([r3].zip [t])) AtA (zip_mem (i := 0) rfl rfl)
      exact ⟨Kt, ct, e1⟩
    obtain ⟨Kt, ct, rfl⟩ := hcs
    refine T.fact (φ := A3 = some (A3.getD default)) (fun w hw => (St.own_arr (A := A3) (n := ([t] : List Tre).length) (c := c3) (rows := [[.slice Kt t.nodes.length ct, .int .i64 t.root]]) hw AtA).some_ hlx) (fun hA => ?_)
    generalize ([t] : List Tre).length = N at *
    repeat' (first | (refine W1 ?_) | (refine W2 (fun hc => ?_) (fun hc => ?_)) | (intro _))
    refine T.callR rfl rfl (fun w' hw' => by have h := rclean_any _ t w' (St.see hw' (K := [[.slice Kt t.nodes.length ct, .int .i64 t.root]].zip [t]) AtA (zip_mem (i := 0) rfl rfl)).tree hwt hkt; rw [hcl] at h; exact h) (fun q _ => ?_)
    repeat' (first | (refine W1 ?_) | (refine W2 (fun hc => ?_) (fun hc => ?_)) | (intro _))
    refine TX.ret_gen (rs := [.cell 4 24, .tmp 5]) (vs := [.agg #[.slice q.1 t.nodes.length q.2, .int .i64 t.root], .bool true]) rfl (.cell rfl (blk_res (cs := [.slice q.1 t.nodes.length q.2, .int .i64 t.root]) AtA rfl) (.tmp rfl .nil)) (fun w' hw => ?_)
    exact ⟨q, rfl, St.inc IncQ hw⟩
  · have h2i : (2 : Int) ≤ (P.len : Int) := by exact_mod_cast h2
    have hof := ofP_many (n := seqN0) rfl hpf (by first | exact fits_seq h2i | exact fits_cho h2i) emptyN h2
    have htl := Fo.trees_len P
    have hd0 : decide ((P.trees.length : Int) = 0) = false := decide_eq_false (by omega)
    have hd1 : decide ((P.trees.length : Int) = 1) = false := decide_eq_false (by omega)
    generalize treT (Fo.join seqN0 emptyN P) = t at *
    repeat' (first | (refine W1 ?_) | (refine W2 (fun hc => ?_) (fun hc => ?_)) | (intro _))
    refine T.callR rfl rfl (fun w' hw' => by have h := rof_any seqN0 kv _ P.trees w' seqN0_wf (RTrees.see (e := ex) (rows := rows3) (K := rows3.zip P.trees) rfl hw' AtA AtA (fun _ h => h)) g1 g2 g3 g4; rw [hof] at h; exact h) (fun q _ => ?_)
    repeat' (first | (refine W1 ?_) | (refine W2 (fun hc => ?_) (fun hc => ?_)) | (intro _))
    refine TX.ret_gen (rs := [.cell 4 24, .tmp 5]) (vs := [.agg #[.slice q.1 t.nodes.length q.2, .int .i64 t.root], .bool true]) rfl (.cell rfl (blk_res (cs := [.slice q.1 t.nodes.length q.2, .int .i64 t.root]) AtA rfl) (.tmp rfl .nil)) (fun w' hw => ?_)
    exact ⟨q, rfl, St.inc IncQ hw⟩
set_option maxHeartbeats 4000000 in
theorem rput_cho (K : Fo) (hfb : K.fb) (hok : K.ok) (hdw : K.dwf) (hsz : K.size ≤ 100000) {w0 : World} {L0 : List HP} (A : Option Addr) (c e : Nat) (rows : List (List Value)) (kv : Value) (w : World)
    (hw : St w0 (own e 2 A K.trees.length c rows :: hSee (rows.zip K.trees) :: L0) w) : Calls Tryd.prog 98 #[.agg (choN0.cells kv).toArray, .slice A K.trees.length c] w (RetMB w0 L0 (treT (Fo.join choN0 setN0 K.ways), true)) := by
  refine TC.calls (l := [.agg (choN0.cells kv).toArray, .slice A K.trees.length c]) (M := St w0 (own e 2 A K.trees.length c rows :: hSee (rows.zip K.trees) :: L0)) Tryd.func98 rfl Tryd.ntmps98 rfl hw ?_
  have hf2 : (!fits choN0 2) = false := by decide +kernel
  have hpf := Fo.fb_ways hfb
  have hpo := Fo.ok_ways hok
  have hpd : K.ways.dwf := by first | exact Fo.dwf_opn (Fo.dwf_drop0 hdw) | exact Fo.dwf_opn hdw
  have hps := Fo.ways_size K
  have hop : K.openR 5 = K.ways := Fo.openR_ways hok
  repeat' (first | (refine W1 ?_) | (refine W2 (fun hc => ?_) (fun hc => ?_)) | (intro _))
  rename_i b2 b4
  refine T.callV rfl rfl (fun w' hw' => rfits_any choN0 kv 2 w' choN0_wf) ?_
  repeat' (first | (refine W1 ?_) | (refine W2 (fun hc => ?_) (fun hc => ?_)) | (intro _))
  refine T.callM (val := fun x : (Option Addr × Nat) × Nat × List (List Value) => .slice x.1.1 K.ways.trees.length x.1.2) (LL := fun x => own x.2.1 2 x.1.1 K.ways.trees.length x.1.2 x.2.2 :: hSee (x.2.2.zip K.ways.trees) :: blk b4 [.slice none 0 0, .int .i64 0] 24 :: blk b2 (choN0.cells kv) 34 :: L0) rfl rfl (fun w' hw' => ?_) (fun x => ?_)
  · have h1 := St.inc (L' := own e 2 A K.trees.length c rows :: hSee (rows.zip K.trees) :: blk b4 [.slice none 0 0, .int .i64 0] 24 :: blk b2 (choN0.cells kv) 34 :: L0) IncQ hw'
    have h2 := ropen_any 5 (K.size + 1) K (by omega) hfb hdw hsz A c e rows w' h1
    rw [hop] at h2
    exact h2
  obtain ⟨⟨A3, c3⟩, ex, rows3⟩ := x
  dsimp only
  obtain ⟨g1, g2, g3, g4⟩ := wf_trees hpd (by omega)
  generalize K.ways = P at *
  rcases Fo.join_cases choN0 setN0 P with ⟨rfl, ej⟩ | ⟨a, b, rfl, ej⟩ | ⟨h2, ej⟩
  · rw [ej]
    have hd0 : decide ((Fo.nil.trees.length : Int) = 0) = true := rfl
    repeat' (first | (refine W1 ?_) | (refine W2 (fun hc => ?_) (fun hc => ?_)) | (intro _))
    refine T.callR rfl rfl (fun w' hw' => rleaf_any setN0 w' rfl) (fun q _ => ?_)
    repeat' (first | (refine W1 ?_) | (refine W2 (fun hc => ?_) (fun hc => ?_)) | (intro _))
    refine TX.ret_gen (rs := [.cell 4 24, .tmp 5]) (vs := [.agg #[.slice q.1 1 q.2, .int .i64 0], .bool true]) rfl (.cell rfl (blk_res (cs := [.slice q.1 1 q.2, .int .i64 0]) AtA rfl) (.tmp rfl .nil)) (fun w' hw => ?_)
    exact ⟨q, rfl, St.inc IncQ hw⟩
  · rw [ej]
    have hnt := NT.tree hpf hpo
    have hcl := hnt.clean
    have htt : (Fo.cons a b .nil).trees = [treT (.cons a b .nil)] := rfl
    have hwt := g2 (treT (.cons a b .nil)) (by rw [htt]; simp)
    have hkt := g4 (treT (.cons a b .nil)) (by rw [htt]; simp)
    rw [htt]
    clear htt g1 g2 g3 g4 hnt hpf hpo hpd hps hop ej
    generalize treT (.cons a b .nil) = t at *
    have hd0 : decide ((([t] : List Tre).length : Int) = 0) = false := by simp
    have hd1 : decide ((([t] : List Tre).length : Int) = 1) = true := by simp
    have hlx : 0 < ([t] : List Tre).length := by simp
    refine T.fact (fun w hw => (St.own_arr (A := A3) (n := ([t] : List Tre).length) (rows := rows3) hw AtA).1) (fun hrl : rows3.length = ([t] : List Tre).length => ?_)
    obtain ⟨r3, rfl⟩ := List.length_eq_one_iff.1 (show rows3.length = 1 by simpa using hrl)
    refine T.fact (φ := ∃ Kt ct, r3 = [.slice Kt t.nodes.length ct, .int .i64 t.root]) (fun w hw => ?_) (fun hcs => ?_)
    · obtain ⟨Kt, ct, e1, _⟩ := St.see hw (K := ([r3].zip [t])) AtA (zip_mem (i := 0) rfl rfl)
      exact ⟨Kt, ct, e1⟩
    obtain ⟨Kt, ct, rfl⟩ := hcs
    refine T.fact (φ := A3 = some (A3.getD default)) (fun w hw => (St.own_arr (A := A3) (n := ([t] : List Tre).length) (c := c3) (rows := [[.slice Kt t.nodes.length ct, .int .i64 t.root]]) hw AtA).some_ hlx) (fun hA => ?_)
    generalize ([t] : List Tre).length = N at *
    repeat' (first | (refine W1 ?_) | (refine W2 (fun hc => ?_) (fun hc => ?_)) | (intro _))
    refine T.callR rfl rfl (fun w' hw' => by have h := rclean_any _ t w' (St.see hw' (K := [[.slice Kt t.nodes.length ct, .int .i64 t.root]].zip [t]) AtA (zip_mem (i := 0) rfl rfl)).tree hwt hkt; rw [hcl] at h; exact h) (fun q _ => ?_)
    repeat' (first | (refine W1 ?_) | (refine W2 (fun hc => ?_) (fun hc => ?_)) | (intro _))
    refine TX.ret_gen (rs := [.cell 4 24, .tmp 5]) (vs := [.agg #[.slice q.1 t.nodes.length q.2, .int .i64 t.root], .bool true]) rfl (.cell rfl (blk_res (cs := [.slice q.1 t.nodes.length q.2, .int .i64 t.root]) AtA rfl) (.tmp rfl .nil)) (fun w' hw => ?_)
    exact ⟨q, rfl, St.inc IncQ hw⟩
  · have h2i : (2 : Int) ≤ (P.len : Int) := by exact_mod_cast h2
    have hof := ofP_many (n := choN0) rfl hpf (by first | exact fits_seq h2i | exact fits_cho h2i) setN0 h2
    have htl := Fo.trees_len P
    have hd0 : decide ((P.trees.length : Int) = 0) = false := decide_eq_false (by omega)
    have hd1 : decide ((P.trees.length : Int) = 1) = false := decide_eq_false (by omega)
    generalize treT (Fo.join choN0 setN0 P) = t at *
    repeat' (first | (refine W1 ?_) | (refine W2 (fun hc => ?_) (fun hc => ?_)) | (intro _))
    refine T.callR rfl rfl (fun w' hw' => by have h := rof_any choN0 kv _ P.trees w' choN0_wf (RTrees.see (e := ex) (rows := rows3) (K := rows3.zip P.trees) rfl hw' AtA AtA (fun _ h => h)) g1 g2 g3 g4; rw [hof] at h; exact h) (fun q _ => ?_)
    repeat' (first | (refine W1 ?_) | (refine W2 (fun hc => ?_) (fun hc => ?_)) | (intro _))
    refine TX.ret_gen (rs := [.cell 4 24, .tmp 5]) (vs := [.agg #[.slice q.1 t.nodes.length q.2, .int .i64 t.root], .bool true]) rfl (.cell rfl (blk_res (cs := [.slice q.1 t.nodes.length q.2, .int .i64 t.root]) AtA rfl) (.tmp rfl .nil)) (fun w' hw => ?_)
    exact ⟨q, rfl, St.inc IncQ hw⟩
end Go.Proofs.YtlhkkngpppcfoaaDoor

namespace Go.Bonsai
open Go Go.Sl Go.RowKit
theorem makes_trees : ∀ {l : List Tre}, allR l = true → l.map (fun t => (makeP t).1) = (foL l).norm.trees
  | [], _ => rfl
  | t :: l, h => by
    have h' := allR_iff.1 h
    have ht := h' t (by simp)
    obtain ⟨m, j, e⟩ := Fo.one (show (foT t).norm.len = 1 by rw [Fo.norm_len, (foT_fb ht).2])
    rw [List.map_cons, makes_trees (allR_iff.2 fun x hx => h' x (by simp [hx])), foL, Fo.norm_app, Fo.trees_app, makeP_yes ht, e]
    rfl
end Go.Bonsai
namespace Go.Proofs.YtlhkkngpppcfoaaDoor
open Go Go.Sl Go.RowKit Go.Bonsai
set_option linter.unusedVariables false
set_option linter.unusedSimpArgs false

theorem rput_any (n : Nod) (K : Fo) (hb : n.kids = []) (hs : n.kind = 4 → n = seqN0) (hc : n.kind = 5 → n = choN0) (hn : n.wf) (hfb : K.fb) (hok : K.ok) (hdw : K.dwf) (hsz : K.size ≤ 100000) {w0 : World} {L0 : List HP} (A : Option Addr) (c e : Nat) (rows : List (List Value)) (kv : Value) (w : World)
    (hw : St w0 (own e 2 A K.trees.length c rows :: hSee (rows.zip K.trees) :: L0) w) : Calls Tryd.prog 98 #[.agg (n.cells kv).toArray, .slice A K.trees.length c] w (RetMB w0 L0 (putF n K)) := by
  by_cases h4 : n.kind = 4
  · obtain rfl := hs h4
    rw [putF_seq]
    exact rput_seq K hfb hok hdw hsz A c e rows kv w hw
  · by_cases h5 : n.kind = 5
    · obtain rfl := hc h5
      rw [putF_cho]
      exact rput_cho K hfb hok hdw hsz A c e rows kv w hw
    · exact rput_rest n K hb h4 h5 hn hfb hdw hsz A c e rows kv w hw

set_option maxHeartbeats 4000000 in
theorem rmake_any : ∀ (N : Nat) (t : Tre), t.nodes.length < N → t.wf → t.nodes.length ≤ 100000 → (allKids t.nodes).length ≤ bigL → ∀ (v : Value) (w : World), RTree (Old w) w v t → Calls Tryd.prog 77 #[v] w (RetTB w (makeP t)) := by
  intro N
  induction N with
  | zero => intro t ht; omega
  | succ N ih =>
  intro t hN ht htl hkt v w hr
  have hr0 := hr
  obtain ⟨nv, rfl, A, c, rows0, rfl, hA, hrows, hc⟩ := hr
  refine TC.calls (l := [.agg #[.slice A t.nodes.length c, .int .i64 t.root]]) Tryd.func77 rfl Tryd.ntmps77 rfl (St.start w) ?_
  cases hri : rightP t with
  | false =>
    have hrin : (!rightP t) = true := by rw [hri]; rfl
    rw [makeP_no hri]
    repeat' (first | (refine W1 ?_) | (refine W2 (fun hc => ?_) (fun hc => ?_)) | (intro _))
    rename_i b1 b2
    refine T.callV rfl rfl (fun w' hw' => rright_any _ t w' (St.old_tree hw' hr0) ht hkt) ?_
    repeat' (first | (refine W1 ?_) | (refine W2 (fun hc => ?_) (fun hc => ?_)) | (intro _))
    refine TX.ret_gen (rs := [.cell 2 24, .tmp 3]) (vs := [.agg #[.slice none 0 0, .int .i64 0], .bool false]) rfl (.cell rfl (blk_res (cs := [.slice none 0 0, .int .i64 0]) AtA rfl) (.tmp rfl .nil)) (fun w' hw => ?_)
    have h1 := St.push (H := hNodes (.slice none 0 0) []) hw Chg.refl hNodes_nil
    exact Ret.mk ((none : Option Addr), 0) trivial (.cons .here .nil) h1
  | true =>
    have hrin : (!rightP t) = false := by rw [hri]; rfl
    obtain ⟨F, hF, hfb, hrk, hfit, hkids⟩ := kids_norm hri
    have hmk := makeP_putF hri hF hfb hrk hfit
    have hless := kids_less hri hF
    have hdw : F.dwf := by
      have h1 : (foT t).dwf := foOf_dwf ht.nodes _ _
      rw [hF] at h1
      exact h1.2.1
    have hns := Fo.norm_size F
    have hnt := norm_trees hfb
    obtain ⟨g1, g2, g3, g4⟩ := wf_trees hdw (by omega)
    have hlen : ∀ x ∈ F.trees, x.nodes.length < N ∧ x.nodes.length ≤ 100000 := fun x hx => by
      have h1 := tot_le hx
      rw [trees_tot] at h1
      omega
    have htt := trees_tot F
    have hwr := rootP_wf ht
    rw [hmk]
    generalize hrt : rootP t = n at *
    have htl2 : F.trees.length ≤ 100000 := by rw [Fo.trees_len]; have := Fo.len_le F; omega
    generalize hz : putF n F.norm = z at *
    repeat' (first | (refine W1 ?_) | (refine W2 (fun hc => ?_) (fun hc => ?_)) | (intro _))
    rename_i b1 b2
    refine T.callV rfl rfl (fun w' hw' => rright_any _ t w' (St.old_tree hw' hr0) ht hkt) ?_
    repeat' (first | (refine W1 ?_) | (refine W2 (fun hc => ?_) (fun hc => ?_)) | (intro _))
    refine T.callR rfl rfl (fun w' hw' => by have h := rkids_any _ t w' (St.old_tree hw' hr0) ht hkt; rw [hkids] at h; exact h) (fun q _ => ?_)
    refine T.ex (fun w hw => St.openT (A := q.1) (c := q.2) (ts := F.trees) DelA hw) (fun y => ?_)
    obtain ⟨krows, hkr⟩ := y
    dsimp only
    repeat' (first | (refine W1 ?_) | (refine W2 (fun hc => ?_) (fun hc => ?_)) | (intro _))
    refine TC.loopA (ι := (Option Addr × Nat) × Nat × List (List Value)) ((none, 0), 0, []) (fun k r => (6, .int .i64 k.2.1) :: (4, .slice k.1.1 k.2.1 k.1.2) :: r)
      (fun k => St w [own 24 2 k.1.1 k.2.1 k.1.2 k.2.2, hTR k.2.2 ((F.trees.take k.2.1).map fun t => (makeP t).1), hTT q.1 F.trees.length q.2 krows F.trees, blk b2 [.slice none 0 0, .int .i64 0] 24, blk b1 [.slice A t.nodes.length c, .int .i64 t.root] 24])
      (fun k => k.2.1 ≤ F.trees.length) (fun k => F.trees.length - k.2.1) KpA SubA (fun w' hw => St.inc IncQ (St.own_nil (e := 24) (sz := 2) (St.trs_nil hw))) (Nat.zero_le _) ?_
    rintro ⟨⟨A1, c1⟩, i, rows⟩ hi
    simp only at hi ⊢
    by_cases hlt : i < F.trees.length
    · have hck : decide ((i : Int) < (F.trees.length : Int)) = true := by simp [hlt]
      have hgx : F.trees[i]? = some F.trees[i] := List.getElem?_eq_getElem hlt
      have hmem := List.getElem_mem hlt
      have htk : F.trees.take (i + 1) = F.trees.take i ++ [F.trees[i]] := List.take_succ_eq_append_getElem hlt
      generalize F.trees[i] = x at *
      obtain ⟨K, kc, hrow⟩ := hkr i x hgx
      have hlx := hlen x hmem
      have hwx := g2 x hmem
      have hkx := g4 x hmem
      refine TC.fact (φ := q.1 = some (q.1.getD default)) (fun w hw => (St.has_arr hw (show At _ (hTT q.1 F.trees.length q.2 krows F.trees) from AtA)).some_ (by omega)) (fun hqs => ?_)
      obtain ⟨y, hy⟩ : ∃ y, y = makeP x := ⟨_, rfl⟩
      repeat' (first | (refine W1 ?_) | (refine W2 (fun hc => ?_) (fun hc => ?_)) | (intro _))
      refine T.callR rfl rfl (fun w' hw' => by have h := ih x hlx.1 hwx hlx.2 hkx _ w' (St.get_tt hw' (show At _ (hTT q.1 F.trees.length q.2 krows F.trees) from AtA) hgx hrow); rw [← hy] at h; exact h) (fun p _ => ?_)
      repeat' (first | (refine W1 ?_) | (refine W2 (fun hc => ?_) (fun hc => ?_)) | (intro _))
      refine T.append (rows := rows) (news := [[.slice p.1 y.1.nodes.length p.2, .int .i64 y.1.root]]) rfl rfl rfl DelA (fun w hw => St.own_arr hw AtA) (fun _ _ r hr => by simp at hr; subst hr; rfl) (by unfold maxLen; omega) (by omega) (fun A4 c4 => ?_)
      repeat' (first | (refine W1 ?_) | (refine W2 (fun hc => ?_) (fun hc => ?_)) | (intro _))
      refine TX.round ((A4, c4), i + 1, rows ++ [[.slice p.1 y.1.nodes.length p.2, .int .i64 y.1.root]]) hlt (show F.trees.length - (i + 1) < F.trees.length - i by omega) SubA (fun w' hw => ?_)
      have h0 := St.del (H := hTR rows ((F.trees.take i).map fun t => (makeP t).1)) DelA hw
      have h1 := St.del (H := hNodes (.slice p.1 y.1.nodes.length p.2) y.1.nodes) DelA h0
      have h2 := St.joinX (K := hTR (rows ++ [[.slice p.1 y.1.nodes.length p.2, .int .i64 y.1.root]]) ((F.trees.take (i + 1)).map fun t => (makeP t).1)) (fun S S' w h h' hd => by
        rw [htk, List.map_append, List.map_cons, List.map_nil, ← hy]
        exact hTR_snoc h h' hd) h1
      exact St.inc IncQ h2
    · have hck : decide ((i : Int) < (F.trees.length : Int)) = false := by simp; omega
      obtain rfl : i = F.trees.length := by omega
      rw [List.take_of_length_le (Nat.le_refl _), hnt]
      have hnl : F.trees.length = F.norm.trees.length := by rw [← hnt]; simp
      repeat' (first | (refine W1 ?_) | (refine W2 (fun hc => ?_) (fun hc => ?_)) | (intro _))
      refine T.callV rfl rfl (fun w' hw' => by have h := rroot_any _ t w' (St.old_tree hw' hr0) ht hkt; rw [hrt] at h; exact h) ?_
      repeat' (first | (refine W1 ?_) | (refine W2 (fun hc => ?_) (fun hc => ?_)) | (intro _))
      have hs4 : n.kind = 4 → n = seqN0 := fun h => (seq_plain hfit h hrk).1
      have hs5 : n.kind = 5 → n = choN0 := fun h => (cho_plain hfit h hrk).1
      refine T.callM (val := fun x : Option Addr × Nat => .tuple #[.agg #[.slice x.1 z.1.nodes.length x.2, .int .i64 z.1.root], .bool z.2]) (LL := fun x => [hNodes (.slice x.1 z.1.nodes.length x.2) z.1.nodes, hTT q.1 F.trees.length q.2 krows F.trees, blk b2 [.slice none 0 0, .int .i64 0] 24, blk b1 [.slice A t.nodes.length c, .int .i64 t.root] 24]) rfl rfl (fun w' hw' => ?_) (fun x => ?_)
      · have h1 := St.inc (L' := [hTR rows F.norm.trees, own 24 2 A1 F.trees.length c1 rows, hTT q.1 F.trees.length q.2 krows F.trees, blk b2 [.slice none 0 0, .int .i64 0] 24, blk b1 [.slice A t.nodes.length c, .int .i64 t.root] 24]) IncQ hw'
        have h2 := St.weak (H' := hSee (rows.zip F.norm.trees)) (fun S w h => hSee_TR h) h1
        have h3 := h2.swap
        rw [hnl] at h3 ⊢
        have h4 := rput_any n F.norm hrk hs4 hs5 hwr (Fo.fb_norm hfb) (Fo.norm_ok F) (Fo.dwf_norm hdw) (by omega) A1 c1 24 rows (.slice none 0 0) w' h3
        rw [hz] at h4
        exact h4
      repeat' (first | (refine W1 ?_) | (refine W2 (fun hc => ?_) (fun hc => ?_)) | (intro _))
      refine TX.ret_gen (rs := [.cell 2 24, .tmp 3]) (vs := [.agg #[.slice x.1 z.1.nodes.length x.2, .int .i64 z.1.root], .bool z.2]) rfl (.cell rfl (blk_res (cs := [.slice x.1 z.1.nodes.length x.2, .int .i64 z.1.root]) AtA rfl) (.tmp rfl .nil)) (fun w' hw => ?_)
      exact Ret.mk x trivial IncA hw
end Go.Proofs.YtlhkkngpppcfoaaDoor

namespace Go.Proofs.YtlhkkngpppcfoaaDoor
open Go Go.Sl Go.RowKit Go.Bonsai
set_option linter.unusedVariables false
set_option linter.unusedSimpArgs false

set_option maxHeartbeats 4000000 in
theorem rofs_any (n : Nod) (kv : Value) (v : Value) (l : List Tre) (w : World) (hb : n.kids = []) (hs : n.kind = 4 → n = seqN0) (hc5 : n.kind = 5 → n = choN0) (hn : n.wf) (hr : RTrees (Old w) w v l) (hwl : ∀ t ∈ l, t.wf) (hto : tot l ≤ 100000) (hll : l.length ≤ 100000) (hkl : ∀ t ∈ l, (allKids t.nodes).length ≤ bigL) :
    Calls Tryd.prog 97 #[.agg (n.cells kv).toArray, v] w (RetTB w (putP n l)) := by
  have hr0 := hr
  obtain ⟨A, c, rows0, rfl, hA, hrows, hc⟩ := hr
  refine TC.calls (l := [.agg (n.cells kv).toArray, .slice A l.length c]) Tryd.func97 rfl Tryd.ntmps97 rfl (St.start w) ?_
  repeat' (first | (refine W1 ?_) | (refine W2 (fun hc => ?_) (fun hc => ?_)) | (intro _))
  rename_i b2 b4
  refine TC.loopA (ι := (Option Addr × Nat) × Nat × List (List Value)) ((none, 0), 0, []) (fun k r => (7, .int .i64 k.2.1) :: (6, .slice k.1.1 k.2.1 k.1.2) :: r)
    (fun k => St w [own 24 2 k.1.1 k.2.1 k.1.2 k.2.2, hTR k.2.2 ((l.take k.2.1).map fun t => (makeP t).1), blk b4 [.slice none 0 0, .int .i64 0] 24, blk b2 (n.cells kv) 34])
    (fun k => k.2.1 ≤ l.length ∧ allR (l.take k.2.1) = true) (fun k => l.length - k.2.1) KpA SubA (fun w' hw => St.inc IncQ (St.own_nil (e := 24) (sz := 2) (St.trs_nil hw))) ⟨Nat.zero_le _, rfl⟩ ?_
  rintro ⟨⟨A1, c1⟩, i, rows⟩ ⟨hi, hall⟩
  simp only at hi hall ⊢
  by_cases hlt : i < l.length
  · have hck : decide ((i : Int) < (l.length : Int)) = true := by simp [hlt]
    have hgx : l[i]? = some l[i] := List.getElem?_eq_getElem hlt
    have hmem := List.getElem_mem hlt
    have htk : l.take (i + 1) = l.take i ++ [l[i]] := List.take_succ_eq_append_getElem hlt
    generalize l[i] = x at *
    obtain ⟨cs, hcs, K, kc, rfl, hK⟩ := hrows.get hgx
    have hwx := hwl x hmem
    have hkx := hkl x hmem
    have htx := tot_le hmem
    have hRx : RTree (Old w) w (.agg #[.slice K x.nodes.length kc, .int .i64 x.root]) x := ⟨_, rfl, hK⟩
    have hA' : A = some (A.getD default) := hA.some_ (by omega)
    have hm := makeP_is x
    obtain ⟨y, hy⟩ : ∃ y, y = makeP x := ⟨_, rfl⟩
    rw [← hy] at hm
    repeat' (first | (refine W1 ?_) | (refine W2 (fun hc => ?_) (fun hc => ?_)) | (intro _))
    refine T.callR rfl rfl (fun w' hw' => by have h := rmake_any (x.nodes.length + 1) x (by omega) hwx (by omega) hkx _ w' (St.old_tree hw' hRx); rw [← hy] at h; exact h) (fun p _ => ?_)
    cases hrx : rightP x with
    | false =>
      have hno : putP n l = (.zero, false) := putP_no2 (by
        cases hal : allR l with
        | false => rfl
        | true => rw [allR_iff.1 hal x hmem] at hrx; cases hrx)
      rw [hno]
      have hy2 : (!y.2) = true := by rw [hm, hrx]; rfl
      repeat' (first | (refine W1 ?_) | (refine W2 (fun hc => ?_) (fun hc => ?_)) | (intro _))
      refine TX.ret_gen (rs := [.cell 4 24, .tmp 5]) (vs := [.agg #[.slice none 0 0, .int .i64 0], .bool false]) rfl (.cell rfl (blk_res (cs := [.slice none 0 0, .int .i64 0]) AtA rfl) (.tmp rfl .nil)) (fun w' hw => ?_)
      have h1 := St.push (H := hNodes (.slice none 0 0) []) hw Chg.refl hNodes_nil
      exact Ret.mk ((none : Option Addr), 0) trivial (.cons .here .nil) h1
    | true =>
      have hy2 : (!y.2) = false := by rw [hm, hrx]; rfl
      have hall2 : allR (l.take (i + 1)) = true := by rw [htk]; unfold allR at hall ⊢; rw [List.all_append, hall]; simp [hrx]
      repeat' (first | (refine W1 ?_) | (refine W2 (fun hc => ?_) (fun hc => ?_)) | (intro _))
      refine T.append (rows := rows) (news := [[.slice p.1 y.1.nodes.length p.2, .int .i64 y.1.root]]) rfl rfl rfl DelA (fun w hw => St.own_arr hw AtA) (fun _ _ r hr => by simp at hr; subst hr; rfl) (by unfold maxLen; omega) (by omega) (fun A4 c4 => ?_)
      repeat' (first | (refine W1 ?_) | (refine W2 (fun hc => ?_) (fun hc => ?_)) | (intro _))
      refine TX.round ((A4, c4), i + 1, rows ++ [[.slice p.1 y.1.nodes.length p.2, .int .i64 y.1.root]]) ⟨hlt, hall2⟩ (show l.length - (i + 1) < l.length - i by omega) SubA (fun w' hw => ?_)
      have h0 := St.del (H := hTR rows ((l.take i).map fun t => (makeP t).1)) DelA hw
      have h1 := St.del (H := hNodes (.slice p.1 y.1.nodes.length p.2) y.1.nodes) DelA h0
      have h2 := St.joinX (K := hTR (rows ++ [[.slice p.1 y.1.nodes.length p.2, .int .i64 y.1.root]]) ((l.take (i + 1)).map fun t => (makeP t).1)) (fun S S' w h h' hd => by
        rw [htk, List.map_append, List.map_cons, List.map_nil, ← hy]
        exact hTR_snoc h h' hd) h1
      exact St.inc IncQ h2
  · have hck : decide ((i : Int) < (l.length : Int)) = false := by simp; omega
    obtain rfl : i = l.length := by omega
    rw [List.take_of_length_le (Nat.le_refl _)] at hall ⊢
    have hnt := makes_trees hall
    have hnl : l.length = (foL l).norm.trees.length := by rw [← hnt]; simp
    obtain ⟨hfb, hfl⟩ := foL_fb (allR_iff.1 hall)
    have hns := Fo.norm_size (foL l)
    rw [foL_size (allR_iff.1 hall)] at hns
    obtain ⟨z, hz⟩ : ∃ z, z = putP n l := ⟨_, rfl⟩
    have hpf := putF_putP (n := n) hall
    rw [← hz] at hpf ⊢
    rw [hnt]
    have hdw := Fo.dwf_norm (foL_dwf hwl)
    have hfb2 := Fo.fb_norm hfb
    have hok2 := Fo.norm_ok (foL l)
    generalize (foL l).norm = F at *
    repeat' (first | (refine W1 ?_) | (refine W2 (fun hc => ?_) (fun hc => ?_)) | (intro _))
    refine T.callM (val := fun x : Option Addr × Nat => .tuple #[.agg #[.slice x.1 z.1.nodes.length x.2, .int .i64 z.1.root], .bool z.2]) (LL := fun x => [hNodes (.slice x.1 z.1.nodes.length x.2) z.1.nodes, blk b4 [.slice none 0 0, .int .i64 0] 24, blk b2 (n.cells kv) 34]) rfl rfl (fun w' hw' => ?_) (fun x => ?_)
    · have h1 := St.inc (L' := [hTR rows F.trees, own 24 2 A1 l.length c1 rows, blk b4 [.slice none 0 0, .int .i64 0] 24, blk b2 (n.cells kv) 34]) IncQ hw'
      have h2 := St.weak (H' := hSee (rows.zip F.trees)) (fun S w h => hSee_TR h) h1
      have h3 := h2.swap
      rw [hnl] at h3 ⊢
      have h4 := rput_any n F hb hs hc5 hn hfb2 hok2 hdw (by omega) A1 c1 24 rows kv w' h3
      rw [hpf] at h4
      exact h4
    repeat' (first | (refine W1 ?_) | (refine W2 (fun hc => ?_) (fun hc => ?_)) | (intro _))
    refine TX.ret_gen (rs := [.cell 4 24, .tmp 5]) (vs := [.agg #[.slice x.1 z.1.nodes.length x.2, .int .i64 z.1.root], .bool z.2]) rfl (.cell rfl (blk_res (cs := [.slice x.1 z.1.nodes.length x.2, .int .i64 z.1.root]) AtA rfl) (.tmp rfl .nil)) (fun w' hw => ?_)
    exact Ret.mk x trivial IncA hw

theorem rseq_any (v : Value) (l : List Tre) (w : World) (hr : RTrees (Old w) w v l) (hwl : ∀ t ∈ l, t.wf) (hto : tot l ≤ 100000) (hll : l.length ≤ 100000) (hkl : ∀ t ∈ l, (allKids t.nodes).length ≤ bigL) : Calls Tryd.prog 63 #[v] w (RetTB w (putP seqN0 l)) := by
  have hr0 := hr
  obtain ⟨A, c, rows0, rfl, hA, hrows, hc⟩ := hr
  refine TC.calls (l := [.slice A l.length c]) Tryd.func63 rfl Tryd.ntmps63 rfl (St.start w) ?_
  obtain ⟨z, hz⟩ : ∃ z, z = putP seqN0 l := ⟨_, rfl⟩
  rw [← hz]
  repeat' (first | (refine W1 ?_) | (refine W2 (fun hc => ?_) (fun hc => ?_)) | (intro _))
  refine T.callR rfl rfl (fun w' hw' => by have h := rofs_any seqN0 (.slice none 0 0) _ l w' rfl (by first | exact fun _ => rfl | (intro h; cases h)) (by first | exact fun _ => rfl | (intro h; cases h)) seqN0_wf (St.old_trees hw' hr0) hwl hto hll hkl; rw [← hz] at h; exact h) (fun q _ => ?_)
  repeat' (first | (refine W1 ?_) | (refine W2 (fun hc => ?_) (fun hc => ?_)) | (intro _))
  refine TX.ret_gen (rs := [.cell 2 24, .tmp 3]) (vs := [.agg #[.slice q.1 z.1.nodes.length q.2, .int .i64 z.1.root], .bool z.2]) rfl (.cell rfl (blk_res (cs := [.slice q.1 z.1.nodes.length q.2, .int .i64 z.1.root]) AtA rfl) (.tmp rfl .nil)) (fun w' hw => ?_)
  exact Ret.mk q trivial IncA hw
theorem rchoice_any (v : Value) (l : List Tre) (w : World) (hr : RTrees (Old w) w v l) (hwl : ∀ t ∈ l, t.wf) (hto : tot l ≤ 100000) (hll : l.length ≤ 100000) (hkl : ∀ t ∈ l, (allKids t.nodes).length ≤ bigL) : Calls Tryd.prog 64 #[v] w (RetTB w (putP choN0 l)) := by
  have hr0 := hr
  obtain ⟨A, c, rows0, rfl, hA, hrows, hc⟩ := hr
  refine TC.calls (l := [.slice A l.length c]) Tryd.func64 rfl Tryd.ntmps64 rfl (St.start w) ?_
  obtain ⟨z, hz⟩ : ∃ z, z = putP choN0 l := ⟨_, rfl⟩
  rw [← hz]
  repeat' (first | (refine W1 ?_) | (refine W2 (fun hc => ?_) (fun hc => ?_)) | (intro _))
  refine T.callR rfl rfl (fun w' hw' => by have h := rofs_any choN0 (.slice none 0 0) _ l w' rfl (by first | exact fun _ => rfl | (intro h; cases h)) (by first | exact fun _ => rfl | (intro h; cases h)) choN0_wf (St.old_trees hw' hr0) hwl hto hll hkl; rw [← hz] at h; exact h) (fun q _ => ?_)
  repeat' (first | (refine W1 ?_) | (refine W2 (fun hc => ?_) (fun hc => ?_)) | (intro _))
  refine TX.ret_gen (rs := [.cell 2 24, .tmp 3]) (vs := [.agg #[.slice q.1 z.1.nodes.length q.2, .int .i64 z.1.root], .bool z.2]) rfl (.cell rfl (blk_res (cs := [.slice q.1 z.1.nodes.length q.2, .int .i64 z.1.root]) AtA rfl) (.tmp rfl .nil)) (fun w' hw => ?_)
  exact Ret.mk q trivial IncA hw
theorem rrep_any (v : Value) (t : Tre) (a b : Int) (ha : I64 a) (hb : I64 b) (w : World) (hr : RTree (Old w) w v t) (ht : t.wf) (htl : t.nodes.length ≤ 100000) (hkt : (allKids t.nodes).length ≤ bigL) : Calls Tryd.prog 67 #[ v, .int .i64 a, .int .i64 b] w (RetTB w (putP (repN a b) [t])) := by
  have hr0 := hr
  obtain ⟨nv, rfl, A, c, rows0, rfl, hA, hrows, hc⟩ := hr
  have hC1 : RTreeC (Old w) w [.slice A t.nodes.length c, .int .i64 t.root] t := ⟨A, c, rfl, A, c, rows0, rfl, hA, hrows, hc⟩
  refine TC.calls (l := [.agg #[.slice A t.nodes.length c, .int .i64 t.root], .int .i64 a, .int .i64 b]) Tryd.func67 rfl Tryd.ntmps67 rfl (St.start w) ?_
  obtain ⟨z, hz⟩ : ∃ z, z = putP (repN a b) [t] := ⟨_, rfl⟩
  rw [← hz]
  have hto : tot [t] ≤ 100000 := by rw [tot_cons]; simp [tot]; omega
  have hwl : ∀ x ∈ [t], x.wf := by intro x hx; simp at hx; subst hx; exact ht
  have hkl : ∀ x ∈ [t], (allKids x.nodes).length ≤ bigL := by intro x hx; simp at hx; subst hx; exact hkt
  repeat' (first | (refine W1 ?_) | (refine W2 (fun hc => ?_) (fun hc => ?_)) | (intro _))
  rename_i B
  refine T.callR rfl rfl (fun w' hw' => by have h := rofs_any (repN a b) (.slice none 0 0) _ [t] w' rfl (fun h => by cases h) (fun h => by cases h) (repN_wf ha hb) (RTrees.old1b hw' AtA hC1) hwl hto (by simp) hkl; rw [← hz] at h; exact h) (fun q _ => ?_)
  repeat' (first | (refine W1 ?_) | (refine W2 (fun hc => ?_) (fun hc => ?_)) | (intro _))
  refine TX.ret_gen (rs := [.cell 6 24, .tmp (6 + 1)]) (vs := [.agg #[.slice q.1 z.1.nodes.length q.2, .int .i64 z.1.root], .bool z.2]) rfl (.cell rfl (blk_res (cs := [.slice q.1 z.1.nodes.length q.2, .int .i64 z.1.root]) AtA rfl) (.tmp rfl .nil)) (fun w' hw => ?_)
  exact Ret.mk q trivial IncA hw
theorem rand_any (v : Value) (t : Tre)  (w : World) (hr : RTree (Old w) w v t) (ht : t.wf) (htl : t.nodes.length ≤ 100000) (hkt : (allKids t.nodes).length ≤ bigL) : Calls Tryd.prog 69 #[ v] w (RetTB w (putP andN0 [t])) := by
  have hr0 := hr
  obtain ⟨nv, rfl, A, c, rows0, rfl, hA, hrows, hc⟩ := hr
  have hC1 : RTreeC (Old w) w [.slice A t.nodes.length c, .int .i64 t.root] t := ⟨A, c, rfl, A, c, rows0, rfl, hA, hrows, hc⟩
  refine TC.calls (l := [.agg #[.slice A t.nodes.length c, .int .i64 t.root]]) Tryd.func69 rfl Tryd.ntmps69 rfl (St.start w) ?_
  obtain ⟨z, hz⟩ : ∃ z, z = putP andN0 [t] := ⟨_, rfl⟩
  rw [← hz]
  have hto : tot [t] ≤ 100000 := by rw [tot_cons]; simp [tot]; omega
  have hwl : ∀ x ∈ [t], x.wf := by intro x hx; simp at hx; subst hx; exact ht
  have hkl : ∀ x ∈ [t], (allKids x.nodes).length ≤ bigL := by intro x hx; simp at hx; subst hx; exact hkt
  repeat' (first | (refine W1 ?_) | (refine W2 (fun hc => ?_) (fun hc => ?_)) | (intro _))
  rename_i B
  refine T.callR rfl rfl (fun w' hw' => by have h := rofs_any andN0 (.slice none 0 0) _ [t] w' rfl (fun h => by cases h) (fun h => by cases h) andN0_wf (RTrees.old1b hw' AtA hC1) hwl hto (by simp) hkl; rw [← hz] at h; exact h) (fun q _ => ?_)
  repeat' (first | (refine W1 ?_) | (refine W2 (fun hc => ?_) (fun hc => ?_)) | (intro _))
  refine TX.ret_gen (rs := [.cell 2 24, .tmp (2 + 1)]) (vs := [.agg #[.slice q.1 z.1.nodes.length q.2, .int .i64 z.1.root], .bool z.2]) rfl (.cell rfl (blk_res (cs := [.slice q.1 z.1.nodes.length q.2, .int .i64 z.1.root]) AtA rfl) (.tmp rfl .nil)) (fun w' hw => ?_)
  exact Ret.mk q trivial IncA hw
theorem rnot_any (v : Value) (t : Tre)  (w : World) (hr : RTree (Old w) w v t) (ht : t.wf) (htl : t.nodes.length ≤ 100000) (hkt : (allKids t.nodes).length ≤ bigL) : Calls Tryd.prog 71 #[ v] w (RetTB w (putP notN0 [t])) := by
  have hr0 := hr
  obtain ⟨nv, rfl, A, c, rows0, rfl, hA, hrows, hc⟩ := hr
  have hC1 : RTreeC (Old w) w [.slice A t.nodes.length c, .int .i64 t.root] t := ⟨A, c, rfl, A, c, rows0, rfl, hA, hrows, hc⟩
  refine TC.calls (l := [.agg #[.slice A t.nodes.length c, .int .i64 t.root]]) Tryd.func71 rfl Tryd.ntmps71 rfl (St.start w) ?_
  obtain ⟨z, hz⟩ : ∃ z, z = putP notN0 [t] := ⟨_, rfl⟩
  rw [← hz]
  have hto : tot [t] ≤ 100000 := by rw [tot_cons]; simp [tot]; omega
  have hwl : ∀ x ∈ [t], x.wf := by intro x hx; simp at hx; subst hx; exact ht
  have hkl : ∀ x ∈ [t], (allKids x.nodes).length ≤ bigL := by intro x hx; simp at hx; subst hx; exact hkt
  repeat' (first | (refine W1 ?_) | (refine W2 (fun hc => ?_) (fun hc => ?_)) | (intro _))
  rename_i B
  refine T.callR rfl rfl (fun w' hw' => by have h := rofs_any notN0 (.slice none 0 0) _ [t] w' rfl (fun h => by cases h) (fun h => by cases h) notN0_wf (RTrees.old1b hw' AtA hC1) hwl hto (by simp) hkl; rw [← hz] at h; exact h) (fun q _ => ?_)
  repeat' (first | (refine W1 ?_) | (refine W2 (fun hc => ?_) (fun hc => ?_)) | (intro _))
  refine TX.ret_gen (rs := [.cell 2 24, .tmp (2 + 1)]) (vs := [.agg #[.slice q.1 z.1.nodes.length q.2, .int .i64 z.1.root], .bool z.2]) rfl (.cell rfl (blk_res (cs := [.slice q.1 z.1.nodes.length q.2, .int .i64 z.1.root]) AtA rfl) (.tmp rfl .nil)) (fun w' hw => ?_)
  exact Ret.mk q trivial IncA hw
theorem rcap_any (v : Value) (t : Tre) (s : ByteArray) (hs : (capN s).wf) (w : World) (hr : RTree (Old w) w v t) (ht : t.wf) (htl : t.nodes.length ≤ 100000) (hkt : (allKids t.nodes).length ≤ bigL) : Calls Tryd.prog 73 #[.string s,  v] w (RetTB w (putP (capN s) [t])) := by
  have hr0 := hr
  obtain ⟨nv, rfl, A, c, rows0, rfl, hA, hrows, hc⟩ := hr
  have hC1 : RTreeC (Old w) w [.slice A t.nodes.length c, .int .i64 t.root] t := ⟨A, c, rfl, A, c, rows0, rfl, hA, hrows, hc⟩
  refine TC.calls (l := [.string s, .agg #[.slice A t.nodes.length c, .int .i64 t.root]]) Tryd.func73 rfl Tryd.ntmps73 rfl (St.start w) ?_
  obtain ⟨z, hz⟩ : ∃ z, z = putP (capN s) [t] := ⟨_, rfl⟩
  rw [← hz]
  have hto : tot [t] ≤ 100000 := by rw [tot_cons]; simp [tot]; omega
  have hwl : ∀ x ∈ [t], x.wf := by intro x hx; simp at hx; subst hx; exact ht
  have hkl : ∀ x ∈ [t], (allKids x.nodes).length ≤ bigL := by intro x hx; simp at hx; subst hx; exact hkt
  repeat' (first | (refine W1 ?_) | (refine W2 (fun hc => ?_) (fun hc => ?_)) | (intro _))
  rename_i B
  refine T.callR rfl rfl (fun w' hw' => by have h := rofs_any (capN s) (.slice none 0 0) _ [t] w' rfl (fun h => by cases h) (fun h => by cases h) hs (RTrees.old1b hw' AtA hC1) hwl hto (by simp) hkl; rw [← hz] at h; exact h) (fun q _ => ?_)
  repeat' (first | (refine W1 ?_) | (refine W2 (fun hc => ?_) (fun hc => ?_)) | (intro _))
  refine TX.ret_gen (rs := [.cell 4 24, .tmp (4 + 1)]) (vs := [.agg #[.slice q.1 z.1.nodes.length q.2, .int .i64 z.1.root], .bool z.2]) rfl (.cell rfl (blk_res (cs := [.slice q.1 z.1.nodes.length q.2, .int .i64 z.1.root]) AtA rfl) (.tmp rfl .nil)) (fun w' hw => ?_)
  exact Ret.mk q trivial IncA hw
/-- trees that may be read -/
abbrev RetSee (w : World) (l : List Tre) : Ending → World → Prop := Ret w (fun p : (Option Addr × Nat) × Nat × List (List Value) => .slice p.1.1 l.length p.1.2) (fun p => [own p.2.1 2 p.1.1 l.length p.1.2 p.2.2, hSee (p.2.2.zip l)]) (fun _ => True)
/-- a tree that may be read, and whether there is one -/
abbrev RetSeeB (w : World) (r : Tre × Bool) : Ending → World → Prop := Ret w (fun p : Option Addr × Nat => .tuple #[.agg #[.slice p.1 r.1.nodes.length p.2, .int .i64 r.1.root], .bool r.2]) (fun p => [hSee [([.slice p.1 r.1.nodes.length p.2, .int .i64 r.1.root], r.1)]]) (fun _ => True)
theorem rparts_any (v : Value) (t : Tre) (w : World) (hr : RTree (Old w) w v t) (ht : t.wf) (htl : t.nodes.length ≤ 100000) (hkt : (allKids t.nodes).length ≤ bigL) : Calls Tryd.prog 80 #[v] w (RetSee w (partsP t)) := by
  have hr0 := hr
  obtain ⟨nv, rfl, A, c, rows0, rfl, hA, hrows, hc⟩ := hr
  refine TC.calls (l := [.agg #[.slice A t.nodes.length c, .int .i64 t.root]]) Tryd.func80 rfl Tryd.ntmps80 rfl (St.start w) ?_
  obtain ⟨y, hy⟩ : ∃ y, y = makeP t := ⟨_, rfl⟩
  have hm := makeP_is t
  rw [← hy] at hm
  repeat' (first | (refine W1 ?_) | (refine W2 (fun hc => ?_) (fun hc => ?_)) | (intro _))
  rename_i b1
  refine T.callR rfl rfl (fun w' hw' => by have h := rmake_any (t.nodes.length + 1) t (by omega) ht htl hkt _ w' (St.old_tree hw' hr0); rw [← hy] at h; exact h) (fun p _ => ?_)
  cases hri : rightP t with
  | false =>
    have hp : partsP t = [] := by rw [partsP, if_neg (by rw [hri]; simp)]
    have hy2 : (!y.2) = true := by rw [hm, hri]; rfl
    rw [hp]
    repeat' (first | (refine W1 ?_) | (refine W2 (fun hc => ?_) (fun hc => ?_)) | (intro _))
    refine TX.ret_tmp rfl rfl (fun w' hw => ?_)
    have h1 := St.push (H := hSee (([] : List (List Value)).zip ([] : List Tre))) hw Chg.refl (fun p hp => by simp at hp)
    have h2 := St.own_nil (e := 0) (sz := 2) h1
    exact Ret.mk (((none : Option Addr), 0), 0, ([] : List (List Value))) trivial IncA h2
  | true =>
    have hy2 : (!y.2) = false := by rw [hm, hri]; rfl
    obtain ⟨hfb, hfl⟩ := foT_fb hri
    have hdw : (foT t).norm.dwf := Fo.dwf_norm (foOf_dwf ht.nodes _ _)
    have hfb2 := Fo.fb_norm hfb
    have hok2 := Fo.norm_ok (foT t)
    have hl2 : (foT t).norm.len = 1 := by rw [Fo.norm_len, hfl]
    have hs2 := Fo.norm_size (foT t)
    rw [size_fo (rightP_spec hri)] at hs2
    have hyx : y.1 = treT (foT t).norm := by rw [hy, makeP_yes hri]
    have hp : partsP t = ((foT t).norm.openR 4).trees := by rw [partsP, if_pos hri, Fo.openR_parts hok2]
    rw [hp]
    generalize (foT t).norm = F at *
    have htr : F.trees = [y.1] := by
      obtain ⟨a, b, e⟩ := Fo.one hl2
      rw [hyx, e]; rfl
    repeat' (first | (refine W1 ?_) | (refine W2 (fun hc => ?_) (fun hc => ?_)) | (intro _))
    rename_i b3 B
    refine T.callM (val := fun x : (Option Addr × Nat) × Nat × List (List Value) => .slice x.1.1 (F.openR 4).trees.length x.1.2) (LL := fun x => [own x.2.1 2 x.1.1 (F.openR 4).trees.length x.1.2 x.2.2, hSee (x.2.2.zip (F.openR 4).trees)]) rfl rfl (fun w' hw' => ?_) (fun x => ?_)
    · have h1 := St.inc (L' := [hNodes (.slice p.1 y.1.nodes.length p.2) y.1.nodes, own 24 2 (some ⟨B, 0, none⟩) 1 1 [[.slice p.1 y.1.nodes.length p.2, .int .i64 y.1.root]]]) IncQ hw'
      have h2 := St.weak (H' := hSee ([[.slice p.1 y.1.nodes.length p.2, .int .i64 y.1.root]].zip F.trees)) (fun S w h => by rw [htr]; exact hSee_TR (hTR_one h)) h1
      have h3 := h2.swap
      have hl3 : 1 = F.trees.length := by rw [htr]; rfl
      have h4 := ropen_any 4 (F.size + 1) F (by omega) hfb2 hdw (by omega) (L0 := []) (some ⟨B, 0, none⟩) 1 24 [[.slice p.1 y.1.nodes.length p.2, .int .i64 y.1.root]] w' (by rw [← hl3]; exact h3)
      rw [← hl3] at h4
      exact h4
    repeat' (first | (refine W1 ?_) | (refine W2 (fun hc => ?_) (fun hc => ?_)) | (intro _))
    exact TX.ret_tmp rfl rfl (fun w' hw => Ret.mk x trivial IncA hw)
theorem rways_any (v : Value) (t : Tre) (w : World) (hr : RTree (Old w) w v t) (ht : t.wf) (htl : t.nodes.length ≤ 100000) (hkt : (allKids t.nodes).length ≤ bigL) : Calls Tryd.prog 81 #[v] w (RetSee w (waysP t)) := by
  have hr0 := hr
  obtain ⟨nv, rfl, A, c, rows0, rfl, hA, hrows, hc⟩ := hr
  refine TC.calls (l := [.agg #[.slice A t.nodes.length c, .int .i64 t.root]]) Tryd.func81 rfl Tryd.ntmps81 rfl (St.start w) ?_
  obtain ⟨y, hy⟩ : ∃ y, y = makeP t := ⟨_, rfl⟩
  have hm := makeP_is t
  rw [← hy] at hm
  repeat' (first | (refine W1 ?_) | (refine W2 (fun hc => ?_) (fun hc => ?_)) | (intro _))
  rename_i b1
  refine T.callR rfl rfl (fun w' hw' => by have h := rmake_any (t.nodes.length + 1) t (by omega) ht htl hkt _ w' (St.old_tree hw' hr0); rw [← hy] at h; exact h) (fun p _ => ?_)
  cases hri : rightP t with
  | false =>
    have hp : waysP t = [] := by rw [waysP, if_neg (by rw [hri]; simp)]
    have hy2 : (!y.2) = true := by rw [hm, hri]; rfl
    rw [hp]
    repeat' (first | (refine W1 ?_) | (refine W2 (fun hc => ?_) (fun hc => ?_)) | (intro _))
    refine TX.ret_tmp rfl rfl (fun w' hw => ?_)
    have h1 := St.push (H := hSee (([] : List (List Value)).zip ([] : List Tre))) hw Chg.refl (fun p hp => by simp at hp)
    have h2 := St.own_nil (e := 0) (sz := 2) h1
    exact Ret.mk (((none : Option Addr), 0), 0, ([] : List (List Value))) trivial IncA h2
  | true =>
    have hy2 : (!y.2) = false := by rw [hm, hri]; rfl
    obtain ⟨hfb, hfl⟩ := foT_fb hri
    have hdw : (foT t).norm.dwf := Fo.dwf_norm (foOf_dwf ht.nodes _ _)
    have hfb2 := Fo.fb_norm hfb
    have hok2 := Fo.norm_ok (foT t)
    have hl2 : (foT t).norm.len = 1 := by rw [Fo.norm_len, hfl]
    have hs2 := Fo.norm_size (foT t)
    rw [size_fo (rightP_spec hri)] at hs2
    have hyx : y.1 = treT (foT t).norm := by rw [hy, makeP_yes hri]
    have hp : waysP t = ((foT t).norm.openR 5).trees := by rw [waysP, if_pos hri, Fo.openR_ways hok2]
    rw [hp]
    generalize (foT t).norm = F at *
    have htr : F.trees = [y.1] := by
      obtain ⟨a, b, e⟩ := Fo.one hl2
      rw [hyx, e]; rfl
    repeat' (first | (refine W1 ?_) | (refine W2 (fun hc => ?_) (fun hc => ?_)) | (intro _))
    rename_i b3 B
    refine T.callM (val := fun x : (Option Addr × Nat) × Nat × List (List Value) => .slice x.1.1 (F.openR 5).trees.length x.1.2) (LL := fun x => [own x.2.1 2 x.1.1 (F.openR 5).trees.length x.1.2 x.2.2, hSee (x.2.2.zip (F.openR 5).trees)]) rfl rfl (fun w' hw' => ?_) (fun x => ?_)
    · have h1 := St.inc (L' := [hNodes (.slice p.1 y.1.nodes.length p.2) y.1.nodes, own 24 2 (some ⟨B, 0, none⟩) 1 1 [[.slice p.1 y.1.nodes.length p.2, .int .i64 y.1.root]]]) IncQ hw'
      have h2 := St.weak (H' := hSee ([[.slice p.1 y.1.nodes.length p.2, .int .i64 y.1.root]].zip F.trees)) (fun S w h => by rw [htr]; exact hSee_TR (hTR_one h)) h1
      have h3 := h2.swap
      have hl3 : 1 = F.trees.length := by rw [htr]; rfl
      have h4 := ropen_any 5 (F.size + 1) F (by omega) hfb2 hdw (by omega) (L0 := []) (some ⟨B, 0, none⟩) 1 24 [[.slice p.1 y.1.nodes.length p.2, .int .i64 y.1.root]] w' (by rw [← hl3]; exact h3)
      rw [← hl3] at h4
      exact h4
    repeat' (first | (refine W1 ?_) | (refine W2 (fun hc => ?_) (fun hc => ?_)) | (intro _))
    exact TX.ret_tmp rfl rfl (fun w' hw => Ret.mk x trivial IncA hw)
theorem rhead_any (v : Value) (t : Tre) (w : World) (hr : RTree (Old w) w v t) (ht : t.wf) (htl : t.nodes.length ≤ 100000) (hkt : (allKids t.nodes).length ≤ bigL) : Calls Tryd.prog 78 #[v] w (RetSeeB w (headP t)) := by
  have hr0 := hr
  obtain ⟨nv, rfl, A, c, rows0, rfl, hA, hrows, hc⟩ := hr
  refine TC.calls (l := [.agg #[.slice A t.nodes.length c, .int .i64 t.root]]) Tryd.func78 rfl Tryd.ntmps78 rfl (St.start w) ?_
  obtain ⟨l, hl⟩ : ∃ l, partsP t = l := ⟨_, rfl⟩
  have hcall : ∀ {L : List HP} w', St w L w' → Calls Tryd.prog 80 #[.agg #[.slice A t.nodes.length c, .int .i64 t.root]] w' (RetSee w' l) := fun w' hw' => by
    have h := rparts_any _ t w' (St.old_tree hw' hr0) ht htl hkt
    rw [hl] at h
    exact h
  cases l with
  | nil =>
    have hh : headP t = (.zero, false) := by unfold headP; rw [hl]
    have hd : decide ((([] : List Tre).length : Int) = 0) = true := by simp
    rw [hh]
    repeat' (first | (refine W1 ?_) | (refine W2 (fun hc => ?_) (fun hc => ?_)) | (intro _))
    refine T.callR rfl rfl hcall (fun p _ => ?_)
    repeat' (first | (refine W1 ?_) | (refine W2 (fun hc => ?_) (fun hc => ?_)) | (intro _))
    refine TX.ret_gen (rs := [.cell 2 24, .tmp 3]) (vs := [.agg #[.slice none 0 0, .int .i64 0], .bool false]) rfl (.cell rfl (blk_res (cs := [.slice none 0 0, .int .i64 0]) AtA rfl) (.tmp rfl .nil)) (fun w' hw => ?_)
    have h1 := St.push (H := hSee [([.slice none 0 0, .int .i64 0], Tre.zero)]) hw Chg.refl (fun p hp => by
      simp at hp; subst hp
      exact ⟨none, 0, rfl, none, 0, [], rfl, Arr.nil, .nil, Nat.le_refl _⟩)
    exact Ret.mk ((none : Option Addr), 0) trivial (.cons .here .nil) h1
  | cons x l =>
    have hh : headP t = (x, true) := by unfold headP; rw [hl]
    have hd : decide (((x :: l).length : Int) = 0) = false := by simp; omega
    have hlx : 0 < (x :: l).length := by simp
    rw [hh]
    repeat' (first | (refine W1 ?_) | (refine W2 (fun hc => ?_) (fun hc => ?_)) | (intro _))
    refine T.callR rfl rfl hcall (fun p _ => ?_)
    obtain ⟨⟨A3, c3⟩, ex, rows3⟩ := p
    dsimp only
    refine T.fact (fun w hw => (St.own_arr (A := A3) (n := (x :: l).length) (rows := rows3) hw AtA).1) (fun hrl : rows3.length = (x :: l).length => ?_)
    cases rows3 with
    | nil => simp at hrl
    | cons r3 rs3 =>
    refine T.fact (φ := ∃ Kt ct, r3 = [.slice Kt x.nodes.length ct, .int .i64 x.root]) (fun w hw => ?_) (fun hcs => ?_)
    · obtain ⟨Kt, ct, e1, _⟩ := St.see hw (K := ((r3 :: rs3).zip (x :: l))) AtA (zip_mem (i := 0) rfl rfl)
      exact ⟨Kt, ct, e1⟩
    obtain ⟨Kt, ct, rfl⟩ := hcs
    refine T.fact (φ := A3 = some (A3.getD default)) (fun w hw => (St.own_arr (A := A3) (n := (x :: l).length) (c := c3) (rows := [.slice Kt x.nodes.length ct, .int .i64 x.root] :: rs3) hw AtA).some_ hlx) (fun hA => ?_)
    generalize (x :: l).length = N at *
    repeat' (first | (refine W1 ?_) | (refine W2 (fun hc => ?_) (fun hc => ?_)) | (intro _))
    refine TX.ret_gen (rs := [.cell 2 24, .tmp 3]) (vs := [.agg #[.slice Kt x.nodes.length ct, .int .i64 x.root], .bool true]) rfl (.cell rfl (blk_res (cs := [.slice Kt x.nodes.length ct, .int .i64 x.root]) AtA rfl) (.tmp rfl .nil)) (fun w' hw => ?_)
    have h1 := St.inc (L' := [hSee (([.slice Kt x.nodes.length ct, .int .i64 x.root] :: rs3).zip (x :: l))]) IncQ hw
    have h2 := St.weak (H' := hSee [([.slice Kt x.nodes.length ct, .int .i64 x.root], x)]) (fun S w h => hSee_sub h (fun p hp => by simp at hp; rw [hp]; simp)) h1
    exact Ret.mk (Kt, ct) trivial IncA h2
theorem rtail_any (v : Value) (t : Tre) (w : World) (hr : RTree (Old w) w v t) (ht : t.wf) (htl : t.nodes.length ≤ 100000) (hkt : (allKids t.nodes).length ≤ bigL) : Calls Tryd.prog 79 #[v] w (RetTB w (tailP t)) := by
  have hr0 := hr
  obtain ⟨nv, rfl, A, c, rows0, rfl, hA, hrows, hc⟩ := hr
  refine TC.calls (l := [.agg #[.slice A t.nodes.length c, .int .i64 t.root]]) Tryd.func79 rfl Tryd.ntmps79 rfl (St.start w) ?_
  obtain ⟨hto, hlo⟩ := partsP_tot t
  have hwp := partsP_wf ht
  have hkp : ∀ x ∈ partsP t, (allKids x.nodes).length ≤ bigL := by
    cases hri : rightP t with
    | false => rw [partsP, if_neg (by rw [hri]; simp)]; intro x hx; simp at hx
    | true =>
      rw [partsP, if_pos hri]
      have h2 := Fo.norm_size (foT t)
      rw [size_fo (rightP_spec hri)] at h2
      have h3 := Fo.parts_size (foT t).norm
      exact (wf_trees (K := (foT t).norm.parts) (Fo.dwf_opn (Fo.dwf_drop0 (Fo.dwf_norm (foOf_dwf ht.nodes _ _)))) (by omega)).2.2.2
  obtain ⟨l, hl⟩ : ∃ l, partsP t = l := ⟨_, rfl⟩
  rw [hl] at hto hlo hwp hkp
  have hcall : ∀ {L : List HP} w', St w L w' → Calls Tryd.prog 80 #[.agg #[.slice A t.nodes.length c, .int .i64 t.root]] w' (RetSee w' l) := fun w' hw' => by
    have h := rparts_any _ t w' (St.old_tree hw' hr0) ht htl hkt
    rw [hl] at h
    exact h
  cases l with
  | nil =>
    have hh : tailP t = (.zero, false) := by unfold tailP; rw [hl]
    have hd : decide ((([] : List Tre).length : Int) = 0) = true := by simp
    rw [hh]
    repeat' (first | (refine W1 ?_) | (refine W2 (fun hc => ?_) (fun hc => ?_)) | (intro _))
    refine T.callR rfl rfl hcall (fun p _ => ?_)
    repeat' (first | (refine W1 ?_) | (refine W2 (fun hc => ?_) (fun hc => ?_)) | (intro _))
    refine TX.ret_gen (rs := [.cell 2 24, .tmp 3]) (vs := [.agg #[.slice none 0 0, .int .i64 0], .bool false]) rfl (.cell rfl (blk_res (cs := [.slice none 0 0, .int .i64 0]) AtA rfl) (.tmp rfl .nil)) (fun w' hw => ?_)
    have h1 := St.push (H := hNodes (.slice none 0 0) []) hw Chg.refl hNodes_nil
    exact Ret.mk ((none : Option Addr), 0) trivial (.cons .here .nil) h1
  | cons x l =>
    obtain ⟨z, hz⟩ : ∃ z, z = putP seqN0 l := ⟨_, rfl⟩
    have hh : tailP t = z := by unfold tailP; rw [hl, hz]
    have hd : decide (((x :: l).length : Int) = 0) = false := by simp; omega
    have hlx : 0 < (x :: l).length := by simp
    rw [tot_cons] at hto
    rw [List.length_cons] at hlo
    rw [hh]
    repeat' (first | (refine W1 ?_) | (refine W2 (fun hc => ?_) (fun hc => ?_)) | (intro _))
    refine T.callR rfl rfl hcall (fun p _ => ?_)
    obtain ⟨⟨A3, c3⟩, ex, rows3⟩ := p
    dsimp only
    refine T.fact (fun w hw => own.cap (hw.at_all (H := own ex 2 A3 (x :: l).length c3 rows3) AtA)) (fun hcap => ?_)
    repeat' (first | (refine W1 ?_) | (refine W2 (fun hc => ?_) (fun hc => ?_)) | (intro _))
    apply T.ev_; exact rfl; exact Ev.slice_slice (l := 1) (h := (x :: l).length) rfl (.inr ⟨_, _, rfl, rfl⟩) (.inl ⟨rfl, rfl⟩) (by omega) hcap
    refine T.callR rfl rfl (fun w' hw' => by have h := rseq_any _ l w' (RTrees.sub1 (RTrees.see (e := ex) (rows := rows3) (K := rows3.zip (x :: l)) rfl hw' AtA AtA (fun _ h => h))) (fun y hy => hwp y (by simp [hy])) (by omega) (by omega) (fun y hy => hkp y (by simp [hy])); rw [← hz] at h; exact h) (fun q _ => ?_)
    repeat' (first | (refine W1 ?_) | (refine W2 (fun hc => ?_) (fun hc => ?_)) | (intro _))
    refine TX.ret_gen (rs := [.cell 2 24, .tmp 3]) (vs := [.agg #[.slice q.1 z.1.nodes.length q.2, .int .i64 z.1.root], .bool z.2]) rfl (.cell rfl (blk_res (cs := [.slice q.1 z.1.nodes.length q.2, .int .i64 z.1.root]) AtA rfl) (.tmp rfl .nil)) (fun w' hw => ?_)
    exact Ret.mk q trivial IncA hw
set_option maxHeartbeats 1000000 in
theorem exacts_any (v u : Value) (l m : List Tre) (w : World) (hr : RTrees (Old w) w v l) (hs : RTrees (Old w) w u m) (hl : l.length ≤ bigN) (hm : m.length ≤ bigN) (hwl : ∀ t ∈ l, t.wf) (hwm : ∀ t ∈ m, t.wf) :
    Calls Tryd.prog 61 #[v, u] w (RetV w (.bool (decide (l = m)))) := by
  obtain ⟨A, c, rows, rfl, hA, hrows, hc⟩ := hr
  obtain ⟨B, d, rows', rfl, hB, hrows', hd⟩ := hs
  unfold bigN at hl hm
  refine TC.calls (l := [.slice A l.length c, .slice B m.length d]) Tryd.func61 rfl Tryd.ntmps61 rfl (St.start w) ?_
  by_cases hlm : l.length = m.length
  case neg =>
    have h1 : (!decide ((l.length : Int) = (m.length : Int))) = true := by simp; omega
    repeat' (first | (refine W1 ?_) | (refine W2 (fun hc => ?_) (fun hc => ?_)) | (intro _))
    exact TX.ret_tmp rfl rfl (fun w' hw => RetV.eq hw (by rw [decide_eq_false (fun h => hlm (by rw [h]))]))
  have h1 : (!decide ((l.length : Int) = (m.length : Int))) = false := by simp; omega
  repeat' (first | (refine W1 ?_) | (refine W2 (fun hc => ?_) (fun hc => ?_)) | (intro _))
  refine TC.loopA (ι := Nat) 0 (fun k r => (5, .int .i64 k) :: r) (fun _ => St w []) (fun k => k ≤ l.length ∧ l.take k = m.take k) (fun k => l.length - k) KpA SubA (fun w' hw => hw) ⟨Nat.zero_le _, rfl⟩ ?_
  rintro i ⟨hi, he⟩
  by_cases hlt : i < l.length
  · have hck : decide ((i : Int) < (l.length : Int)) = true := by simp [hlt]
    have hlt' : i < m.length := by omega
    obtain ⟨cs, hcs, hrc⟩ := hrows.get (List.getElem?_eq_getElem hlt)
    obtain ⟨ds, hds, hrd⟩ := hrows'.get (List.getElem?_eq_getElem hlt')
    have hwx := hwl _ (List.getElem_mem hlt)
    have hwy := hwm _ (List.getElem_mem hlt')
    have hA' : A = some (A.getD default) := hA.some_ (by omega)
    have hB' : B = some (B.getD default) := hB.some_ (by omega)
    have hst : l[i] = m[i] → l.take (i + 1) = m.take (i + 1) := fun h => by
      rw [List.take_succ_eq_append_getElem hlt, List.take_succ_eq_append_getElem hlt', he, h]
    have hne : l[i] ≠ m[i] → l ≠ m := fun h e => h (by subst e; rfl)
    generalize l[i] = x at *
    generalize m[i] = y at *
    have hrt := hrc.tree
    have hrs := hrd.tree
    obtain ⟨K, kc, rfl, _⟩ := hrc
    obtain ⟨K', kc', rfl, _⟩ := hrd
    by_cases hxy : x = y
    · have h2 : (!decide (x = y)) = false := by simp [hxy]
      repeat' (first | (refine TL.kcall rfl rfl DropA (Cl.callV rfl (fun w' hw' => exact_any _ _ x y w' (St.old_tree hw' hrt) (St.old_tree hw' hrs) hwx hwy)) (fun _ _ h => h) (fun _ => ?_)) | (refine W1 ?_) | (refine W2 (fun hc => ?_) (fun hc => ?_)) | (intro _))
      exact TX.round (i + 1) ⟨hlt, hst hxy⟩ (by omega) SubA (fun w' hw => hw)
    · have h2 : (!decide (x = y)) = true := by simp [hxy]
      repeat' (first | (refine TL.kcall rfl rfl DropA (Cl.callV rfl (fun w' hw' => exact_any _ _ x y w' (St.old_tree hw' hrt) (St.old_tree hw' hrs) hwx hwy)) (fun _ _ h => h) (fun _ => ?_)) | (refine W1 ?_) | (refine W2 (fun hc => ?_) (fun hc => ?_)) | (intro _))
      exact TX.ret_tmp rfl rfl (fun w' hw => RetV.eq hw (by rw [decide_eq_false (hne hxy)]))
  · have hck : decide ((i : Int) < (l.length : Int)) = false := by simp; omega
    rw [List.take_of_length_le (by omega), List.take_of_length_le (by omega)] at he
    repeat' (first | (refine W1 ?_) | (refine W2 (fun hc => ?_) (fun hc => ?_)) | (intro _))
    exact TX.ret_tmp rfl rfl (fun w' hw => RetV.eq hw (by rw [decide_eq_true he]))
end Go.Proofs.YtlhkkngpppcfoaaDoor
