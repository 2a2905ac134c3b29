/-
  tree.Right, walked.
-/
import Derived.Test.YtalnmednhhimhaaDoorFits
set_option linter.all false
namespace Go.Proofs.YtalnmednhhimhaaDoor
open Go Go.Sl Go.RowKit Go.Bonsai
set_option linter.unusedVariables false
set_option linter.unusedSimpArgs false

def brows (l : List Bool) : List (List Value) := l.map fun b => [.bool b]
theorem brows_get {l : List Bool} {i : Nat} {b : Bool} (h : l[i]? = some b) : (brows l)[i]? = some [.bool b] := by simp [brows, h]
theorem brows_set (l : List Bool) (i : Nat) (b : Bool) : brows (l.set i b) = (brows l).set i [.bool b] := by simp [brows, List.map_set]

theorem right_any (v : Value) (t : Tre) (w : World) (hr : RTree (Old w) w v t) (ht : t.wf) (hT : Tab w) :
    Calls Tryd.prog 21 #[v] w (RetV w (.bool (rightP t))) := by
  obtain ⟨ns, root⟩ := t
  obtain ⟨nv, rfl, A, c, rows, rfl, hA, hrows, hc⟩ := hr
  obtain ⟨hlen, hwn, hroot⟩ := ht
  simp only at hA hrows hlen hwn hroot hc ⊢
  unfold bigN at hlen
  refine TC.calls (l := [.agg #[.slice A ns.length c, .int .i64 root]]) Tryd.func21 rfl Tryd.ntmps21 rfl (St.start w) ?_
  by_cases h1 : root < 0
  · have hc1 : decide (root < 0) = true := by simp [h1]
    repeat' (first | (refine W1 ?_) | (refine W2 (fun hc => ?_) (fun hc => ?_)) | (intro _))
    refine TX.ret_tmp rfl rfl (fun w' hw => RetV.eq hw ?_)
    simp [rightP]; omega
  have hc1 : decide (root < 0) = false := by simp [h1]
  by_cases h2 : (ns.length : Int) ≤ root
  · have hc2 : decide ((ns.length : Int) ≤ root) = true := by simp [h2]
    repeat' (first | (refine W1 ?_) | (refine W2 (fun hc => ?_) (fun hc => ?_)) | (intro _))
    refine TX.ret_tmp rfl rfl (fun w' hw => RetV.eq hw ?_)
    simp [rightP]; omega
  have hc2 : decide ((ns.length : Int) ≤ root) = false := by simp [h2]
  have hm1 : 1 * ns.length ≤ 281474976710656 := by omega
  repeat' (first | (refine W1 ?_) | (refine W2 (fun hc => ?_) (fun hc => ?_)) | (intro _))
  rename_i b B
  refine TC.loop (ι := Nat × List Bool) (fun k => [(1, .pointer (some ⟨b, 0, none⟩)), (3, .slice (some ⟨B, 0, none⟩) ns.length ns.length), (26, .slice A ns.length c), (27, .int .i64 ns.length), (28, .int .i64 k.1)])
    (fun k => St w [own 4 1 (some ⟨B, 0, none⟩) ns.length ns.length (brows k.2), blk b [.slice A ns.length c, .int .i64 root] 24])
    (fun k => k.1 ≤ ns.length ∧ k.2.length = ns.length ∧ takeNodes k.1 (ns.drop k.1) k.2 = takeNodes 0 ns (List.replicate ns.length false)) (fun k => ns.length - k.1) ?_ ?_
  · exact TX.enter (0, List.replicate ns.length false) ⟨by simp, by simp, by simp⟩ ⟨rfl, rfl, rfl, rfl, rfl, trivial⟩ (fun w' h => by rw [show brows (List.replicate ns.length false) = List.replicate ns.length (Value.bool false).cells.toList from by rw [brows, List.map_replicate]; rfl]; exact h)
  · rintro ⟨i, tk⟩ ⟨hi, htl, hte⟩
    simp only at hi htl hte ⊢
    by_cases hlt : i < ns.length
    · have hc3 : decide ((i : Int) < (ns.length : Int)) = true := by simp [hlt]
      obtain ⟨cs, hcs, kv, rfl, K, kc, rfl, hK, hkc⟩ := hrows.get (List.getElem?_eq_getElem hlt)
      have hwf := hwn _ (List.getElem_mem hlt)
      have hd : ns.drop i = ns[i] :: ns.drop (i + 1) := List.drop_eq_getElem_cons hlt
      rw [hd, takeNodes] at hte
      generalize hn : ns[i] = n at *
      have hkl := hwf.kids.1
      unfold bigL at hkl
      have hA' : A = some (A.getD default) := hA.some_ (by omega)
      cases hf : fits n n.kids.length with
      | false =>
        have hfn : (!fits n n.kids.length) = true := by rw [hf]; rfl
        repeat' (first | (refine T.callV rfl rfl (fun w' hw' => fits_any n _ _ w' (Tab.st hT hw') hwf) ?_) | (refine W1 ?_) | (refine W2 (fun hc => ?_) (fun hc => ?_)) | (intro _))
        refine TX.ret_tmp rfl rfl (fun w' hw => RetV.eq hw ?_)
        rw [hf] at hte
        simp [rightP, ← hte]
      | true =>
        have hfn : (!fits n n.kids.length) = false := by rw [hf]; rfl
        rw [if_pos hf] at hte
        repeat' (first | (refine T.callV rfl rfl (fun w' hw' => fits_any n _ _ w' (Tab.st hT hw') hwf) ?_) | (refine W1 ?_) | (refine W2 (fun hc => ?_) (fun hc => ?_)) | (intro _))
        refine TC.loop (ι := Nat × List Bool) (fun k => [(1, .pointer (some ⟨b, 0, none⟩)), (3, .slice (some ⟨B, 0, none⟩) ns.length ns.length), (26, .slice A ns.length c), (27, .int .i64 ns.length), (28, .int .i64 i), (4, .int .i64 i), (40, .slice K n.kids.length kc), (41, .int .i64 n.kids.length), (42, .int .i64 k.1)])
          (fun k => St w [own 4 1 (some ⟨B, 0, none⟩) ns.length ns.length (brows k.2), blk b [.slice A ns.length c, .int .i64 root] 24])
          (fun k => k.1 ≤ n.kids.length ∧ k.2.length = ns.length ∧ takeKids i (n.kids.drop k.1) k.2 = takeKids i n.kids tk) (fun k => n.kids.length - k.1) ?_ ?_
        · exact TX.enter (0, tk) ⟨by simp, htl, by simp⟩ ⟨rfl, rfl, rfl, rfl, rfl, rfl, rfl, rfl, rfl, trivial⟩ (fun w' h => h.drop 1)
        · rintro ⟨j, tj⟩ ⟨hj, hjl, hje⟩
          simp only at hj hjl hje ⊢
          by_cases hjt : j < n.kids.length
          · have hc4 : decide ((j : Int) < (n.kids.length : Int)) = true := by simp [hjt]
            have hkd : n.kids.drop j = n.kids[j] :: n.kids.drop (j + 1) := List.drop_eq_getElem_cons hjt
            have hkj : n.kids[j]? = some n.kids[j] := List.getElem?_eq_getElem hjt
            rw [hkd, takeKids] at hje
            generalize hk : n.kids[j] = x at *
            have hKs : K = some (K.getD default) := hK.some_ (by omega)
            by_cases x0 : x < 0
            · have hc5 : decide (x < 0) = true := by simp [x0]
              repeat' (first | (refine W1 ?_) | (refine W2 (fun hc => ?_) (fun hc => ?_)) | (intro _))
              refine TX.ret_tmp rfl rfl (fun w' hw => RetV.eq hw ?_)
              rw [if_pos (.inl x0)] at hje
              rw [← hje] at hte
              simp [rightP, ← hte]
            have hc5 : decide (x < 0) = false := by simp [x0]
            by_cases x1 : (i : Int) ≤ x
            · have hc6 : decide ((i : Int) ≤ x) = true := by simp [x1]
              repeat' (first | (refine W1 ?_) | (refine W2 (fun hc => ?_) (fun hc => ?_)) | (intro _))
              refine TX.ret_tmp rfl rfl (fun w' hw => RetV.eq hw ?_)
              rw [if_pos (.inr (.inl x1))] at hje
              rw [← hje] at hte
              simp [rightP, ← hte]
            have hc6 : decide ((i : Int) ≤ x) = false := by simp [x1]
            obtain ⟨y, rfl⟩ : ∃ y : Nat, x = y := ⟨x.toNat, by omega⟩
            have hy : y < ns.length := by omega
            obtain ⟨q, hq⟩ : ∃ q, tj[y]? = some q := ⟨_, List.getElem?_eq_getElem (by omega)⟩
            have hqr := brows_get hq
            cases q with
            | true =>
              repeat' (first | (refine W1 ?_) | (refine W2 (fun hc => ?_) (fun hc => ?_)) | (intro _))
              refine TX.ret_tmp rfl rfl (fun w' hw => RetV.eq hw ?_)
              rw [if_pos (.inr (.inr (by simp [hq])))] at hje
              rw [← hje] at hte
              simp [rightP, ← hte]
            | false =>
              have e1 : (brows tj).set y (splice [.bool false] 0 [.bool true]) = brows (tj.set y true) := (brows_set tj y true).symm
              repeat' (first | (refine W1 ?_) | (refine W2 (fun hc => ?_) (fun hc => ?_)) | (intro _))
              refine T.storeA (i := y) (o := 0) (r := [.bool false]) rfl rfl rfl rfl rfl rfl UpdA (by omega) hqr (by simp) ?_
              rw [e1]
              repeat' (first | (refine W1 ?_) | (refine W2 (fun hc => ?_) (fun hc => ?_)) | (intro _))
              refine TX.round (j + 1, tj.set y true) ⟨by omega, by simp [hjl], ?_⟩ (by omega) ⟨rfl, rfl, rfl, rfl, rfl, rfl, rfl, rfl, rfl, trivial⟩ (fun _ h => h)
              rw [if_neg (by simp [hq]; omega)] at hje
              exact hje
          · have hc4 : decide ((j : Int) < (n.kids.length : Int)) = false := by simp; omega
            repeat' (first | (refine W1 ?_) | (refine W2 (fun hc => ?_) (fun hc => ?_)) | (intro _))
            refine TX.round (i + 1, tj) ⟨by omega, hjl, ?_⟩ (by omega) ⟨rfl, rfl, rfl, rfl, rfl, trivial⟩ (fun _ h => h)
            rw [List.drop_of_length_le (by omega), takeKids] at hje
            rw [← hje] at hte
            exact hte
    · have hc3 : decide ((i : Int) < (ns.length : Int)) = false := by simp; omega
      rw [List.drop_of_length_le (by omega), takeNodes] at hte
      repeat' (first | (refine W1 ?_) | (refine W2 (fun hc => ?_) (fun hc => ?_)) | (intro _))
      refine TC.loop (ι := Nat) (fun k => [(1, .pointer (some ⟨b, 0, none⟩)), (3, .slice (some ⟨B, 0, none⟩) ns.length ns.length), (64, .slice (some ⟨B, 0, none⟩) ns.length ns.length), (65, .int .i64 ns.length), (66, .int .i64 k)])
        (fun k => St w [own 4 1 (some ⟨B, 0, none⟩) ns.length ns.length (brows tk), blk b [.slice A ns.length c, .int .i64 root] 24])
        (fun k => k ≤ ns.length ∧ ∀ m, m < k → (!(tk.getD m false == decide ((m : Int) = root))) = true) (fun k => ns.length - k) ?_ ?_
      · exact TX.enter 0 ⟨by omega, by omega⟩ ⟨rfl, rfl, rfl, rfl, rfl, trivial⟩ (fun _ h => h)
      · rintro k ⟨hk, hkm⟩
        by_cases hkt : k < ns.length
        · have hc4 : decide ((k : Int) < (ns.length : Int)) = true := by simp [hkt]
          obtain ⟨q, hq⟩ : ∃ q, tk[k]? = some q := ⟨_, List.getElem?_eq_getElem (by omega)⟩
          have hqr := brows_get hq
          cases hqe : (q == decide ((k : Int) = root)) with
          | true =>
            repeat' (first | (refine W1 ?_) | (refine W2 (fun hc => ?_) (fun hc => ?_)) | (intro _))
            refine TX.ret_tmp rfl rfl (fun w' hw => RetV.eq hw ?_)
            simp only [rightP, ← hte]
            refine congrArg Value.bool (Eq.symm ?_)
            rw [Bool.and_eq_false_iff]
            refine .inr ?_
            rw [List.all_eq_false]
            exact ⟨k, by simpa using hkt, by simp [List.getD, hq, hqe]⟩
          | false =>
            repeat' (first | (refine W1 ?_) | (refine W2 (fun hc => ?_) (fun hc => ?_)) | (intro _))
            refine TX.round (k + 1) ⟨by omega, fun m hm => ?_⟩ (by omega) ⟨rfl, rfl, rfl, rfl, rfl, trivial⟩ (fun _ h => h)
            rcases Nat.lt_or_ge m k with h | h
            · exact hkm m h
            · obtain rfl : m = k := by omega
              simp [List.getD, hq, hqe]
        · have hc4 : decide ((k : Int) < (ns.length : Int)) = false := by simp; omega
          repeat' (first | (refine W1 ?_) | (refine W2 (fun hc => ?_) (fun hc => ?_)) | (intro _))
          refine TX.ret_tmp rfl rfl (fun w' hw => RetV.eq hw ?_)
          have hall : ((List.range ns.length).all fun i => !(tk.getD i false == decide ((i : Int) = root))) = true := by
            rw [List.all_eq_true]
            intro m hm
            exact hkm m (by simp at hm; omega)
          simp only [rightP, ← hte, hall]
          simp; omega
end Go.Proofs.YtalnmednhhimhaaDoor
