/-
  bonsairef05.Normal, walked.
-/
import Derived.Test.YtlhkkngpppcfoaaDoorAwake5
set_option linter.all false
namespace Go.Bonsai
open Go Go.Sl Go.RowKit
def badK (n x : Int) : Bool := (decide (n = 4) && (decide (x = 4) || decide (x = 0))) || (decide (n = 5) && decide (x = 5))
theorem normN_R (ns : List Nod) (n : Nod) : normN ns n = n.kids.all fun k => !badK n.kind (kindA ns k) := by
  unfold normN badK
  by_cases h4 : n.kind = 4
  · simp [h4]
  · by_cases h5 : n.kind = 5
    · simp [h5]
    · simp [h4, h5]
end Go.Bonsai
namespace Go.Proofs.YtlhkkngpppcfoaaDoor
open Go Go.Sl Go.RowKit Go.Bonsai
set_option linter.unusedVariables false
set_option linter.unusedSimpArgs false

set_option maxHeartbeats 4000000 in
theorem rnormal_any (v : Value) (t : Tre) (w : World) (hr : RTree (Old w) w v t) (ht : t.wf) (hkt : (allKids t.nodes).length ≤ bigL) : Calls Tryd.prog 82 #[v] w (RetV w (.bool (normalP t))) := by
  have hr0 := hr
  obtain ⟨nv, rfl, A, c, rows0, rfl, hA, hrows, hc⟩ := hr
  have hlen := ht.len
  unfold bigN at hlen
  refine TC.calls (l := [.agg #[.slice A t.nodes.length c, .int .i64 t.root]]) Tryd.func82 rfl Tryd.ntmps82 rfl (St.start w) ?_
  cases hri : rightP t with
  | false =>
    have hrin : (!rightP t) = true := by rw [hri]; rfl
    rw [normalP_no hri]
    repeat' (first | (refine W1 ?_) | (refine W2 (fun hc => ?_) (fun hc => ?_)) | (intro _))
    refine T.callV rfl rfl (fun w' hw' => rright_any _ t w' (St.old_tree hw' hr0) ht hkt) ?_
    repeat' (first | (refine W1 ?_) | (refine W2 (fun hc => ?_) (fun hc => ?_)) | (intro _))
    exact TX.ret_tmp rfl rfl (fun w' hw => RetV.eq hw rfl)
  | true =>
    have hrin : (!rightP t) = false := by rw [hri]; rfl
    have hR := rightP_spec hri
    have hN : normalP t = t.nodes.all (normN t.nodes) := by unfold normalP; rw [hri]; rfl
    rw [hN]
    repeat' (first | (refine W1 ?_) | (refine W2 (fun hc => ?_) (fun hc => ?_)) | (intro _))
    rename_i b1
    refine T.callV rfl rfl (fun w' hw' => rright_any _ t w' (St.old_tree hw' hr0) ht hkt) ?_
    repeat' (first | (refine W1 ?_) | (refine W2 (fun hc => ?_) (fun hc => ?_)) | (intro _))
    refine TC.loopA (ι := Nat) 0 (fun k r => (3, .int .i64 k) :: r) (fun _ => St w [blk b1 [.slice A t.nodes.length c, .int .i64 t.root] 24]) (fun k => k ≤ t.nodes.length ∧ (t.nodes.take k).all (normN t.nodes) = true) (fun k => t.nodes.length - k) KpA SubA (fun w' hw => hw) ⟨Nat.zero_le _, rfl⟩ ?_
    rintro i ⟨hi, hall⟩
    by_cases hlt : i < t.nodes.length
    · have hck : decide ((i : Int) < (t.nodes.length : Int)) = true := by simp [hlt]
      have hns : t.nodes[i]? = some t.nodes[i] := List.getElem?_eq_getElem hlt
      obtain ⟨cs, hcs, kv, rfl, K, kc, rfl, hK, hkc⟩ := hrows.get hns
      have hko := hR.kok i _ hns
      have hwn := ht.nodes _ (List.getElem_mem hlt)
      have hstep : normN t.nodes t.nodes[i] = true → (t.nodes.take (i + 1)).all (normN t.nodes) = true := fun h => by
        rw [List.take_succ_eq_append_getElem hlt, List.all_append, hall]; simpa using h
      have hstop : normN t.nodes t.nodes[i] = false → t.nodes.all (normN t.nodes) = false := fun h => by
        rw [List.all_eq_false]; exact ⟨_, List.getElem_mem hlt, by rw [h]; simp⟩
      rw [normN_R] at hstep hstop
      generalize t.nodes[i] = n at *
      have hA' : A = some (A.getD default) := hA.some_ (by omega)
      have hkl := hwn.kids.1
      unfold bigL at hkl
      repeat' (first | (refine W1 ?_) | (refine W2 (fun hc => ?_) (fun hc => ?_)) | (intro _))
      rename_i b4
      refine TC.loopA (ι := Nat) 0 (fun k r => (5, .int .i64 k) :: r) (fun _ => St w [blk b4 (n.cells (.slice K n.kids.length kc)) 34, blk b1 [.slice A t.nodes.length c, .int .i64 t.root] 24]) (fun j => j ≤ n.kids.length ∧ ((n.kids.take j).all fun k => !badK n.kind (kindA t.nodes k)) = true) (fun j => n.kids.length - j) KpA SubA (fun w' hw => hw) ⟨Nat.zero_le _, rfl⟩ ?_
      rintro j ⟨hj, hallj⟩
      by_cases hjl : j < n.kids.length
      · have hcj : decide ((j : Int) < (n.kids.length : Int)) = true := by simp [hjl]
        have hjk : n.kids[j]? = some n.kids[j] := List.getElem?_eq_getElem hjl
        have hy0 := hko _ (List.getElem_mem hjl)
        have hstepj : badK n.kind (kindA t.nodes n.kids[j]) = false → ((n.kids.take (j + 1)).all fun k => !badK n.kind (kindA t.nodes k)) = true := fun h => by
          rw [List.take_succ_eq_append_getElem hjl, List.all_append, hallj]; simp [h]
        have hstopj : badK n.kind (kindA t.nodes n.kids[j]) = true → t.nodes.all (normN t.nodes) = false := fun h => hstop (by
          rw [List.all_eq_false]; exact ⟨_, List.getElem_mem hjl, by rw [h]; simp⟩)
        generalize n.kids[j] = y at *
        obtain ⟨y, rfl⟩ : ∃ z : Nat, y = z := ⟨y.toNat, by omega⟩
        have hyl : y < t.nodes.length := by omega
        have hys : t.nodes[y]? = some t.nodes[y] := List.getElem?_eq_getElem hyl
        obtain ⟨cs', hcs', kv', rfl, K', kc', rfl, _, _⟩ := hrows.get hys
        rw [kindA_get hys] at hstepj hstopj
        generalize t.nodes[y] = m at *
        have hK' : K = some (K.getD default) := hK.some_ (by omega)
        unfold badK at hstepj hstopj
        cases d1 : decide (n.kind = 4) with
        | true =>
          have d5 : decide (n.kind = 5) = false := by simp at d1 ⊢; omega
          cases d2 : decide (m.kind = 4) with
          | true =>
            rw [hstopj (by rw [d1, d2]; rfl)]
            repeat' (first | (refine W1 ?_) | (refine W2 (fun hc => ?_) (fun hc => ?_)) | (intro _))
            exact TX.ret_tmp rfl rfl (fun w' hw => RetV.eq hw rfl)
          | false =>
            cases d3 : decide (m.kind = 0) with
            | true =>
              rw [hstopj (by rw [d1, d2, d3]; rfl)]
              repeat' (first | (refine W1 ?_) | (refine W2 (fun hc => ?_) (fun hc => ?_)) | (intro _))
              exact TX.ret_tmp rfl rfl (fun w' hw => RetV.eq hw rfl)
            | false =>
              have g := hstepj (by rw [d1, d2, d3, d5]; rfl)
              repeat' (first | (refine W1 ?_) | (refine W2 (fun hc => ?_) (fun hc => ?_)) | (intro _))
              exact TX.round (j + 1) ⟨hjl, g⟩ (by omega) SubA (fun w' hw => hw)
        | false =>
          cases d5 : decide (n.kind = 5) with
          | true =>
            cases d6 : decide (m.kind = 5) with
            | true =>
              rw [hstopj (by rw [d1, d5, d6]; rfl)]
              repeat' (first | (refine W1 ?_) | (refine W2 (fun hc => ?_) (fun hc => ?_)) | (intro _))
              exact TX.ret_tmp rfl rfl (fun w' hw => RetV.eq hw rfl)
            | false =>
              have g := hstepj (by rw [d1, d5, d6]; rfl)
              repeat' (first | (refine W1 ?_) | (refine W2 (fun hc => ?_) (fun hc => ?_)) | (intro _))
              exact TX.round (j + 1) ⟨hjl, g⟩ (by omega) SubA (fun w' hw => hw)
          | false =>
            have g := hstepj (by rw [d1, d5]; rfl)
            repeat' (first | (refine W1 ?_) | (refine W2 (fun hc => ?_) (fun hc => ?_)) | (intro _))
            exact TX.round (j + 1) ⟨hjl, g⟩ (by omega) SubA (fun w' hw => hw)
      · have hcj : decide ((j : Int) < (n.kids.length : Int)) = false := by simp; omega
        rw [List.take_of_length_le (by omega)] at hallj
        have g := hstep hallj
        repeat' (first | (refine W1 ?_) | (refine W2 (fun hc => ?_) (fun hc => ?_)) | (intro _))
        exact TX.round (i + 1) ⟨hlt, g⟩ (by omega) SubA (fun w' hw => St.inc IncQ hw)
    · have hck : decide ((i : Int) < (t.nodes.length : Int)) = false := by simp; omega
      rw [List.take_of_length_le (by omega)] at hall
      rw [hall]
      repeat' (first | (refine W1 ?_) | (refine W2 (fun hc => ?_) (fun hc => ?_)) | (intro _))
      exact TX.ret_tmp rfl rfl (fun w' hw => RetV.eq hw rfl)
end Go.Proofs.YtlhkkngpppcfoaaDoor
