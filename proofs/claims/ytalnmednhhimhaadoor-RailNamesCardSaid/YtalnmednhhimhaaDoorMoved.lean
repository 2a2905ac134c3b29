/-
  tree.moved, walked.
-/
import Derived.Test.YtalnmednhhimhaaDoorTaken
set_option linter.all false
namespace Go.Bonsai
open Go Go.Sl
theorem set_mid {α : Type} {done rest : List α} {i : Nat} {x : α} (hd : done.length = i) (hi : i < rest.length) : (done ++ rest.drop i).set i x = (done ++ [x]) ++ rest.drop (i + 1) := by
  subst hd
  rw [List.drop_eq_getElem_cons hi, List.set_append_right _ _ (Nat.le_refl _), Nat.sub_self, List.set_cons_zero, List.append_assoc]
  rfl
theorem get_mid {α : Type} {done rest : List α} {i : Nat} (hd : done.length = i) : (done ++ rest.drop i)[i]? = rest[i]? := by
  subst hd
  rw [List.getElem?_append_right (Nat.le_refl _), Nat.sub_self, List.getElem?_drop]
  rfl
end Go.Bonsai
namespace Go.Proofs.YtalnmednhhimhaaDoor
open Go Go.Sl Go.RowKit Go.Bonsai
set_option linter.unusedVariables false
set_option linter.unusedSimpArgs false

/-- new nodes -/
abbrev RetN (w : World) (ns : List Nod) : Ending → World → Prop := Ret w (fun p : Option Addr × Nat => .slice p.1 ns.length p.2) (fun p => [hNodes (.slice p.1 ns.length p.2) ns]) (fun _ => True)

theorem moved_any (v : Value) (ns : List Nod) (d : Int) (w : World) (hr : RNodes (Old w) w v ns) (hl : ns.length ≤ bigN) (hwn : ∀ n ∈ ns, n.wf) (hd : ∀ n ∈ ns, ∀ k ∈ n.kids, I64 (k + d)) :
    Calls Tryd.prog 48 #[v, .int .i64 d] w (RetN w (movedP ns d)) := by
  obtain ⟨A, c, rows0, rfl, hA, hrows, hc⟩ := hr
  have hl' := hl
  unfold bigN at hl'
  have h0l : rows0.length = ns.length := hA.1
  have hm1 : 96 * ns.length ≤ 281474976710656 := by omega
  refine TC.calls (l := [.slice A ns.length c, .int .i64 d]) Tryd.func48 rfl Tryd.ntmps48 rfl (St.start w) ?_
  repeat' (first | (refine W1 ?_) | (refine W2 (fun hc => ?_) (fun hc => ?_)) | (intro _))
  rename_i B
  have hone : ∀ r ∈ rows0, oneB r = true := by
    intro r hr
    obtain ⟨i, hi⟩ := List.mem_iff_getElem?.1 hr
    have hlt := (List.getElem?_eq_some_iff.1 hi).1
    obtain ⟨kv, rfl, A', c', rfl, _⟩ := hrows.2 i r _ hi (List.getElem?_eq_getElem (by omega))
    rfl
  refine T.copy rfl rfl rfl UpdA (fun w hw => St.old_arr hw hA) hone ?_
  rw [List.take_of_length_le (by omega), List.drop_of_length_le (by simp), List.append_nil]
  repeat' (first | (refine W1 ?_) | (refine W2 (fun hc => ?_) (fun hc => ?_)) | (intro _))
  refine TC.loopA (ι := Nat × List (List Value)) (0, []) (fun k r => (18, .int .i64 k.1) :: r)
    (fun k => St w [own 55 9 (some ⟨B, 0, none⟩) ns.length ns.length (k.2 ++ rows0.drop k.1), hRows k.2 (movedP (ns.take k.1) d)])
    (fun k => k.1 ≤ ns.length ∧ k.2.length = k.1) (fun k => ns.length - k.1) KpA SubA (fun w' hw => St.inc IncA (St.rows_nil hw)) ⟨by simp, rfl⟩ ?_
  rintro ⟨i, done⟩ ⟨hi, hdl⟩
  simp only at hi hdl ⊢
  by_cases hlt : i < ns.length
  · have hck : decide ((i : Int) < (ns.length : Int)) = true := by simp [hlt]
    have hns : ns[i]? = some ns[i] := List.getElem?_eq_getElem hlt
    obtain ⟨cs, hcs, kv, rfl, K, kc, rfl, hK, hkc⟩ := hrows.get hns
    have hwf := hwn _ (List.getElem_mem hlt)
    have hdk := hd _ (List.getElem_mem hlt)
    have htk : ns.take (i + 1) = ns.take i ++ [ns[i]] := List.take_succ_eq_append_getElem hlt
    have hkl := hwf.kids.1
    unfold bigL at hkl
    generalize ns[i] = n at *
    have hmv : movedP (ns.take (i + 1)) d = movedP (ns.take i) d ++ [{ n with kids := n.kids.map (· + d) }] := by rw [htk]; simp [movedP]
    have hge : (done ++ rows0.drop i)[i]? = some (n.cells (.slice K n.kids.length kc)) := (get_mid hdl).trans hcs
    repeat' (first | (refine W1 ?_) | (refine W2 (fun hc => ?_) (fun hc => ?_)) | (intro _))
    rename_i b2
    refine T.storeA (i := i) (o := 8) (r := n.cells (.slice K n.kids.length kc)) rfl rfl rfl rfl rfl rfl UpdA (by omega) hge (by simp) ?_
    rw [show (done ++ rows0.drop i).set i (splice (n.cells (.slice K n.kids.length kc)) 8 [.slice none 0 0]) = _ from set_mid hdl (by omega)]
    repeat' (first | (refine W1 ?_) | (refine W2 (fun hc => ?_) (fun hc => ?_)) | (intro _))
    · have hk0 : n.kids = [] := by simpa using hc
      refine TX.round (i + 1, done ++ [n.cells (.slice none 0 0)]) ⟨hlt, by simp [hdl]⟩ (show ns.length - (i + 1) < ns.length - i by omega) SubA (fun w' hw => ?_)
      have h0 := St.del (H := hRows done (movedP (ns.take i) d)) DelA hw
      have h1 := St.own_nil (e := 3) (sz := 1) h0
      have h2 := St.joinX (K := hRows (done ++ [n.cells (.slice none 0 0)]) (movedP (ns.take (i + 1)) d)) (fun S S' w h h' hd => by
        rw [hmv]
        exact hRows_snoc (n := { n with kids := n.kids.map (· + d) }) (by simp [hk0]) (by simpa [hk0, irows] using h) h' hd) h1
      exact St.inc IncA h2
    · refine T.copy rfl rfl rfl UpdA (fun w hw => St.old_arr hw hK) (irows_oneB _) ?_
      rw [List.take_of_length_le (by rw [irows_len]; omega), List.drop_of_length_le (by simp), List.append_nil]
      rename_i B3
      repeat' (first | (refine W1 ?_) | (refine W2 (fun hc => ?_) (fun hc => ?_)) | (intro _))
      refine TC.loopA (ι := Nat) 0 (fun k r => (41, .int .i64 k) :: r) (fun k => St w [own 3 1 (some ⟨B3, 0, none⟩) n.kids.length n.kids.length (irows ((n.kids.take k).map (· + d) ++ n.kids.drop k)), own 55 9 (some ⟨B, 0, none⟩) ns.length ns.length (done ++ [n.cells (.slice none 0 0)] ++ rows0.drop (i + 1)), hRows done (movedP (ns.take i) d)])
        (fun k => k ≤ n.kids.length) (fun k => n.kids.length - k) KpA SubA (fun w' hw => St.inc IncA hw) (Nat.zero_le _) ?_
      intro j hj
      by_cases hjl : j < n.kids.length
      · have hcj : decide ((j : Int) < (n.kids.length : Int)) = true := by simp [hjl]
        have hjk : n.kids[j]? = some n.kids[j] := List.getElem?_eq_getElem hjl
        have hje : ((n.kids.take j).map (· + d) ++ n.kids.drop j)[j]? = some n.kids[j] := by
          rw [List.getElem?_append_right (by simp; omega), List.getElem?_drop, ← hjk]
          congr 1
          simp; omega
        have hI := hdk _ (List.getElem_mem hjl)
        have hst := mapK_step (· + d) n.kids j hjl
        generalize n.kids[j] = y at *
        repeat' (first | (refine W1 ?_) | (refine W2 (fun hc => ?_) (fun hc => ?_)) | (intro _))
        refine T.storeA (i := j) (o := 0) (r := [.int .i64 y]) rfl rfl rfl rfl rfl rfl UpdA (by omega) (irows_get hje) (by simp) ?_
        have e3 := (irows_set ((n.kids.take j).map (· + d) ++ n.kids.drop j) j (y + d)).symm
        rw [hst] at e3
        rw [show (irows ((n.kids.take j).map (· + d) ++ n.kids.drop j)).set j (splice [.int .i64 y] 0 [.int .i64 (y + d)]) = _ from e3]
        repeat' (first | (refine W1 ?_) | (refine W2 (fun hc => ?_) (fun hc => ?_)) | (intro _))
        exact TX.round (j + 1) hjl (by omega) SubA (fun w' hw => hw)
      · have hcj : decide ((j : Int) < (n.kids.length : Int)) = false := by simp; omega
        rw [List.take_of_length_le (l := n.kids) (by omega), List.drop_of_length_le (l := n.kids) (by omega), List.append_nil]
        repeat' (first | (refine W1 ?_) | (refine W2 (fun hc => ?_) (fun hc => ?_)) | (intro _))
        have hg2 : (done ++ [n.cells (.slice none 0 0)] ++ rows0.drop (i + 1))[i]? = some (n.cells (.slice none 0 0)) := by
          rw [List.append_assoc, List.getElem?_append_right (show done.length ≤ i by omega), hdl, Nat.sub_self]
          rfl
        refine T.storeA (i := i) (o := 8) (r := n.cells (.slice none 0 0)) rfl rfl rfl rfl rfl rfl UpdA (by omega) hg2 (by simp) ?_
        have e4 : (done ++ [n.cells (.slice none 0 0)] ++ rows0.drop (i + 1)).set i (n.cells (.slice (some ⟨B3, 0, none⟩) n.kids.length n.kids.length)) = done ++ [n.cells (.slice (some ⟨B3, 0, none⟩) n.kids.length n.kids.length)] ++ rows0.drop (i + 1) := by
          rw [List.append_assoc, List.set_append_right _ _ (show done.length ≤ i by omega), hdl, Nat.sub_self, List.append_assoc]
          rfl
        rw [show (done ++ [n.cells (.slice none 0 0)] ++ rows0.drop (i + 1)).set i (splice (n.cells (.slice none 0 0)) 8 [.slice (some ⟨B3, 0, none⟩) n.kids.length n.kids.length]) = _ from e4]
        repeat' (first | (refine W1 ?_) | (refine W2 (fun hc => ?_) (fun hc => ?_)) | (intro _))
        refine TX.round (i + 1, done ++ [n.cells (.slice (some ⟨B3, 0, none⟩) n.kids.length n.kids.length)]) ⟨hlt, by simp [hdl]⟩ (show ns.length - (i + 1) < ns.length - i by omega) SubA (fun w' hw => ?_)
        have h0 := St.del (H := hRows done (movedP (ns.take i) d)) DelA hw
        have h1 := St.del (H := own 3 1 (some ⟨B3, 0, none⟩) n.kids.length n.kids.length (irows (n.kids.map (· + d)))) DelA h0
        have h2 := St.joinX (K := hRows (done ++ [n.cells (.slice (some ⟨B3, 0, none⟩) n.kids.length n.kids.length)]) (movedP (ns.take (i + 1)) d)) (fun S S' w h h' hd => by
          rw [hmv]
          exact hRows_snoc (n := { n with kids := n.kids.map (· + d) }) (by simp) h h' hd) h1
        exact St.inc IncA h2
  · have hck : decide ((i : Int) < (ns.length : Int)) = false := by simp; omega
    obtain rfl : i = ns.length := by omega
    repeat' (first | (refine W1 ?_) | (refine W2 (fun hc => ?_) (fun hc => ?_)) | (intro _))
    refine TX.ret_tmp rfl rfl (fun w' hw => ?_)
    rw [List.drop_of_length_le (by omega), List.append_nil, List.take_of_length_le (Nat.le_refl _)] at hw
    have hml : (movedP ns d).length = ns.length := by simp [movedP]
    rw [← hml] at hw ⊢
    have h2 := St.joinX (K := hNodes (.slice (some ⟨B, 0, none⟩) (movedP ns d).length (movedP ns d).length) (movedP ns d)) (fun S S' w h h' hd => hNodes_join h h' hd) hw
    exact Ret.mk ((some ⟨B, 0, none⟩ : Option Addr), (movedP ns d).length) trivial (.cons .here .nil) h2
end Go.Proofs.YtalnmednhhimhaaDoor
