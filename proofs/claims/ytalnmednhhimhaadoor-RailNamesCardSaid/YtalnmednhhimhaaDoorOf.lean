/-
  tree.Of, walked.
-/
import Derived.Test.YtalnmednhhimhaaDoorTrees
set_option linter.all false
namespace Go.Bonsai
open Go Go.Sl
def tot (l : List Tre) : Nat := (l.map fun t => t.nodes.length).sum
theorem tot_cons (t : Tre) (l : List Tre) : tot (t :: l) = t.nodes.length + tot l := by simp [tot]
theorem tot_le {l : List Tre} {t : Tre} (h : t ∈ l) : t.nodes.length ≤ tot l := by
  induction l with
  | nil => cases h
  | cons x l ih =>
    rw [tot_cons]
    rcases List.mem_cons.1 h with rfl | h
    · omega
    · have := ih h; omega
end Go.Bonsai
namespace Go.Proofs.YtalnmednhhimhaaDoor
open Go Go.Sl Go.RowKit Go.Bonsai
set_option linter.unusedVariables false
set_option linter.unusedSimpArgs false

/-- a new tree, and whether there is one -/
abbrev RetTB (w : World) (r : Tre × Bool) : Ending → World → Prop := Ret w (fun p : Option Addr × Nat => .tuple #[.agg #[.slice p.1 r.1.nodes.length p.2, .int .i64 r.1.root], .bool r.2]) (fun p => [hNodes (.slice p.1 r.1.nodes.length p.2) r.1.nodes]) (fun _ => True)

theorem of_any (n : Nod) (kv : Value) (v : Value) (l : List Tre) (w : World) (hn : n.wf) (hr : RTrees (Old w) w v l) (hl : l.length ≤ bigN) (hwl : ∀ t ∈ l, t.wf) (hto : tot l + 1 ≤ bigN) (hT : Tab w) :
    Calls Tryd.prog 25 #[.agg (n.cells kv).toArray, v] w (RetTB w (ofP n l)) := by
  obtain ⟨A, c, rows0, rfl, hA, hrows, hc⟩ := hr
  have h0l : rows0.length = l.length := hA.1
  unfold bigN at hl hto
  refine TC.calls (l := [.agg (n.cells kv).toArray, .slice A l.length c]) Tryd.func25 rfl Tryd.ntmps25 rfl (St.start w) ?_
  cases hf : fits n l.length with
  | false =>
    have hfn : (!fits n l.length) = true := by rw [hf]; rfl
    repeat' (first | (refine T.callV rfl rfl (fun w' hw' => fits_any n _ _ w' (Tab.st hT hw') hn) ?_) | (refine W1 ?_) | (refine W2 (fun hc => ?_) (fun hc => ?_)) | (intro _))
    rename_i b0 b1
    have e : ofP n l = (.zero, false) := by unfold ofP; rw [if_neg (by rw [hf]; simp)]
    rw [e]
    refine TX.ret_gen (rs := [.cell 4 24, .tmp 5]) (vs := [.agg #[.slice none 0 0, .int .i64 0], .bool false]) rfl (.cell rfl (blk_res (cs := [.slice none 0 0, .int .i64 0]) AtA rfl) (.tmp rfl .nil)) (fun w' hw => ?_)
    have h1 := St.push (H := hNodes (.slice none 0 0) []) hw Chg.refl hNodes_nil
    exact Ret.mk ((none : Option Addr), 0) trivial (.cons .here .nil) h1
  | true =>
    have hfn : (!fits n l.length) = false := by rw [hf]; rfl
    have hofN : ofGo l [] [] = none → ofP n l = (.zero, false) := fun h => by unfold ofP; rw [if_pos hf, h]
    have hofS : ∀ a ks, ofGo l [] [] = some (a, ks) → ofP n l = (⟨a ++ [{ n with kids := ks }], a.length⟩, true) := fun a ks h => by unfold ofP; rw [if_pos hf, h]
    repeat' (first | (refine T.callV rfl rfl (fun w' hw' => fits_any n _ _ w' (Tab.st hT hw') hn) ?_) | (refine W1 ?_) | (refine W2 (fun hc => ?_) (fun hc => ?_)) | (intro _))
    rename_i b0 b1
    refine TC.loopA (ι := (Option Addr × Nat × Nat) × (Option Addr × Nat) × List (List Value) × Nat × List Nod × List Int) ((none, 0, 0), (none, 0), [], 0, [], [])
      (fun k r => (18, .int .i64 k.2.2.2.1) :: (6, .slice k.1.1 k.1.2.2 k.1.2.1) :: (7, .slice k.2.1.1 k.2.2.2.1 k.2.1.2) :: r)
      (fun k => St w [own 55 9 k.1.1 k.1.2.2 k.1.2.1 k.2.2.1, hRows k.2.2.1 k.2.2.2.2.1, own 3 1 k.2.1.1 k.2.2.2.1 k.2.1.2 (irows k.2.2.2.2.2), blk b1 [.slice none 0 0, .int .i64 0] 24, blk b0 (n.cells kv) 55])
      (fun k => k.2.2.2.1 ≤ l.length ∧ k.2.2.2.2.2.length = k.2.2.2.1 ∧ k.2.2.2.2.1.length = k.1.2.2 ∧ k.1.2.2 + tot (l.drop k.2.2.2.1) ≤ tot l ∧ ofGo (l.drop k.2.2.2.1) k.2.2.2.2.1 k.2.2.2.2.2 = ofGo l [] [] ∧ ∀ x ∈ k.2.2.2.2.2, I64 x)
      (fun k => l.length - k.2.2.2.1) KpA SubA (fun w' hw => St.inc IncA (St.own_nil (e := 55) (sz := 9) (St.rows_nil (St.own_nil (e := 3) (sz := 1) hw)))) ⟨by simp, rfl, rfl, by simp, rfl, by simp⟩ ?_
    rintro ⟨⟨A1, c1, m⟩, ⟨A2, c2⟩, rows, i, a, ks⟩ ⟨hi, hkl, ham, hal, he, hks⟩
    simp only at hi hkl ham hal he hks ⊢
    by_cases hlt : i < l.length
    · have hck : decide ((i : Int) < (l.length : Int)) = true := by simp [hlt]
      have hls : l[i]? = some l[i] := List.getElem?_eq_getElem hlt
      have hd : l.drop i = l[i] :: l.drop (i + 1) := List.drop_eq_getElem_cons hlt
      obtain ⟨cs, hcs, hrc⟩ := hrows.get hls
      have hwt := hwl _ (List.getElem_mem hlt)
      have htt := tot_le (List.getElem_mem hlt)
      rw [hd, ofGo] at he
      rw [hd, tot_cons] at hal
      generalize l[i] = t at *
      have hrt := hrc.tree
      obtain ⟨K, kc, rfl, hrn⟩ := hrc
      have hA' : A = some (A.getD default) := hA.some_ (by omega)
      cases hri : rightP t with
      | false =>
        have hrin : (!rightP t) = true := by rw [hri]; rfl
        rw [if_neg (by rw [hri]; simp)] at he
        repeat' (first | (refine T.callV rfl rfl (fun w' hw' => right_any _ t w' (St.old_tree hw' hrt) hwt (Tab.st hT hw')) ?_) | (refine W1 ?_) | (refine W2 (fun hc => ?_) (fun hc => ?_)) | (intro _))
        rw [hofN he.symm]
        refine TX.ret_gen (rs := [.cell 4 24, .tmp 5]) (vs := [.agg #[.slice none 0 0, .int .i64 0], .bool false]) rfl (.cell rfl (blk_res (cs := [.slice none 0 0, .int .i64 0]) AtA rfl) (.tmp rfl .nil)) (fun w' hw => ?_)
        have h1 := St.push (H := hNodes (.slice none 0 0) []) hw Chg.refl hNodes_nil
        exact Ret.mk ((none : Option Addr), 0) trivial (.cons .here .nil) h1
      | true =>
        have hrin : (!rightP t) = false := by rw [hri]; rfl
        have hRt := rightP_spec hri
        have hwfk := takenP_wf hwt hRt hRt.root.1 hRt.root.2
        have hlk := takenP_len hRt hRt.root.1 hRt.root.2
        have hpk : 0 < (takenP t t.root).nodes.length := by
          show 0 < (takenGo _ _ _ _).length
          rw [takenGo_length]; exact behind_pos hRt hRt.root.1 hRt.root.2
        have hml : (movedP (takenP t t.root).nodes (m : Int)).length = (takenP t t.root).nodes.length := by simp [movedP]
        rw [if_pos hri, ham] at he
        repeat' (first | (refine T.callV rfl rfl (fun w' hw' => right_any _ t w' (St.old_tree hw' hrt) hwt (Tab.st hT hw')) ?_) | (refine W1 ?_) | (refine W2 (fun hc => ?_) (fun hc => ?_)) | (intro _))
        refine T.callR rfl rfl (fun w' hw' => taken_any _ t t.root w' (St.old_tree hw' hrt) hwt hRt hRt.root.1 hRt.root.2) (fun p1 _ => ?_)
        repeat' (first | (refine W1 ?_) | (refine W2 (fun hc => ?_) (fun hc => ?_)) | (intro _))
        refine T.callR rfl rfl (fun w' hw' => moved_any _ (takenP t t.root).nodes (m : Int) w' (St.get_nodes hw' AtA) hwfk.1.len hwfk.1.nodes (fun x hx k hk => by have := hwfk.2 x hx k hk; unfold bigN at this; unfold I64; omega)) (fun p2 _ => ?_)
        rw [hml]
        refine T.openN DelA (fun rows2 => ?_)
        refine T.append (rows := rows) (news := rows2) rfl rfl rfl DelA (fun w hw => (hw.at_all (H := hNR _ _ _ rows2 _) AtA).1) (fun w hw => rows_oneB (hw.at_all (H := hNR _ _ _ rows2 _) AtA).2.1) (by unfold maxLen; omega) (by omega) (fun A5 c5 => ?_)
        repeat' (first | (refine W1 ?_) | (refine W2 (fun hc => ?_) (fun hc => ?_)) | (intro _))
        refine T.append (rows := irows ks) (news := irows [((m + (takenP t t.root).nodes.length - 1 : Nat) : Int)]) rfl rfl rfl DelA (fun w hw => St.own_arr hw AtA) (fun _ _ => irows_oneB _) (by unfold maxLen; omega) (by omega) (fun A6 c6 => ?_)
        repeat' (first | (refine W1 ?_) | (refine W2 (fun hc => ?_) (fun hc => ?_)) | (intro _))
        refine TX.round ((A5, c5, m + (takenP t t.root).nodes.length), (A6, c6), rows ++ rows2, i + 1, a ++ movedP (takenP t t.root).nodes (m : Int), ks ++ [((m + (takenP t t.root).nodes.length - 1 : Nat) : Int)]) ⟨hlt, by simp [hkl], by simp [ham, hml], ?_, ?_, ?_⟩ (show l.length - (i + 1) < l.length - i by omega) SubA (fun w' hw => ?_)
        · show m + (takenP t t.root).nodes.length + tot (l.drop (i + 1)) ≤ tot l
          omega
        · rw [← he]
          show ofGo _ _ _ = ofGo _ _ _
          rw [show ((m + (takenP t t.root).nodes.length - 1 : Nat) : Int) = ((m + (takenP t t.root).nodes.length : Nat) : Int) - 1 by omega]
        · intro x hx
          rcases List.mem_append.1 hx with hx | hx
          · exact hks x hx
          · simp at hx
            subst hx
            unfold I64
            omega
        · have h0 := St.del (H := hNR p2.1 (takenP t t.root).nodes.length p2.2 rows2 (movedP (takenP t t.root).nodes (m : Int))) DelA hw
          have h1 := St.del (H := hRows rows a) DelA h0
          have h2 := St.joinX (K := hRows (rows ++ rows2) (a ++ movedP (takenP t t.root).nodes (m : Int))) (fun S S' w h h' hd => hRows_append h h' hd) h1
          rw [← irows_append] at h2
          exact St.inc IncA h2
    · have hck : decide ((i : Int) < (l.length : Int)) = false := by simp; omega
      obtain rfl : i = l.length := by omega
      rw [List.drop_of_length_le (Nat.le_refl _), ofGo] at he
      repeat' (first | (refine W1 ?_) | (refine W2 (fun hc => ?_) (fun hc => ?_)) | (intro _))
      refine T.append (rows := rows) (news := [({ n with kids := ks }).cells (.slice A2 l.length c2)]) rfl rfl rfl DelA (fun w hw => St.own_arr hw AtA) (fun _ _ r hr => by simp at hr; subst hr; rfl) (by unfold maxLen; omega) (by omega) (fun A7 c7 => ?_)
      repeat' (first | (refine W1 ?_) | (refine W2 (fun hc => ?_) (fun hc => ?_)) | (intro _))
      rw [hofS a ks he.symm]
      refine TX.ret_gen (rs := [.cell 4 24, .tmp 5]) (vs := [.agg #[.slice A7 (m + 1) c7, .int .i64 ((m + 1 - 1 : Nat) : Int)], .bool true]) rfl (.cell rfl (blk_res (cs := [.slice A7 (m + 1) c7, .int .i64 ((m + 1 - 1 : Nat) : Int)]) AtA rfl) (.tmp rfl .nil)) (fun w' hw => ?_)
      have h0 := St.del (H := hRows rows a) DelA hw
      have h1 := St.del (H := own 3 1 A2 l.length c2 (irows ks)) DelA h0
      have h2 := St.joinX (K := hRows (rows ++ [({ n with kids := ks }).cells (.slice A2 l.length c2)]) (a ++ [{ n with kids := ks }])) (fun S S' w h h' hd => hRows_snoc (n := { n with kids := ks }) hkl h h' hd) h1
      have h3 := St.del (H := own 55 9 A7 (m + 1) c7 (rows ++ [({ n with kids := ks }).cells (.slice A2 l.length c2)])) DelA h2
      have hal : (a ++ [{ n with kids := ks }]).length = m + 1 := by simp [ham]
      rw [← hal] at h3
      have h4 := St.joinX (K := hNodes (.slice A7 (a ++ [{ n with kids := ks }]).length c7) (a ++ [{ n with kids := ks }])) (fun S S' w h h' hd => hNodes_join h h' hd) h3
      rw [Nat.add_sub_cancel, ← ham, show a.length + 1 = (a ++ [{ n with kids := ks }]).length by simp]
      exact Ret.mk (A7, c7) trivial (.cons .here .nil) h4
end Go.Proofs.YtalnmednhhimhaaDoor
