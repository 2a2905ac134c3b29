/-
  bonsairef04.Right, walked.
-/
import Derived.Test.YtlhkkngpppcfoaaDoorRefFits
import Derived.Test.YtlhkkngpppcfoaaDoorRight
import Derived.Test.YtlhkkngpppcfoaaDoorHeap
set_option linter.all false
namespace Go.Bonsai
open Go Go.Sl
/-- how often each number stands in a row -/
def cnts (N : Nat) (l : List Int) : List Int := (List.range N).map fun j : Nat => ((l.count (j : Int) : Nat) : Int)
theorem cnts_len (N : Nat) (l : List Int) : (cnts N l).length = N := by simp [cnts]
theorem cnts_get {N j : Nat} (l : List Int) (h : j < N) : (cnts N l)[j]? = some ((l.count (j : Int) : Nat) : Int) := by simp [cnts, h]
theorem cnts_nil (N : Nat) : cnts N [] = List.replicate N 0 := by
  apply List.ext_getElem?
  intro j
  by_cases h : j < N
  · rw [cnts_get [] h, List.getElem?_replicate, if_pos h]; rfl
  · rw [List.getElem?_eq_none (by rw [cnts_len]; omega), List.getElem?_eq_none (by simp; omega)]
theorem cnts_snoc {N x : Nat} (l : List Int) (hx : x < N) : (cnts N l).set x (((l.count (x : Int) : Nat) : Int) + 1) = cnts N (l ++ [(x : Int)]) := by
  apply List.ext_getElem?
  intro j
  by_cases h : j < N
  · rw [cnts_get _ h, List.getElem?_set, cnts_len]
    by_cases hj : x = j
    · subst hj
      rw [if_pos rfl, if_pos h]
      simp
    · rw [if_neg hj, cnts_get _ h, List.count_append, List.count_singleton]
      have : ¬ ((j : Int) = (x : Int)) := by omega
      have hb : ((x : Int) == (j : Int)) = false := by simp; omega
      simp [hb]
  · rw [List.getElem?_eq_none (by simp [cnts_len]; omega), List.getElem?_eq_none (by rw [cnts_len]; omega)]
theorem rightP_no {t : Tre} (h : ¬ RightT t) : rightP t = false := by
  cases hr : rightP t with
  | false => rfl
  | true => exact absurd (rightP_spec hr) h
theorem allKids_take {ns : List Nod} {i : Nat} {n : Nod} (h : ns[i]? = some n) : allKids (ns.take (i + 1)) = allKids (ns.take i) ++ n.kids := by
  obtain ⟨hi, he⟩ := List.getElem?_eq_some_iff.1 h
  rw [List.take_succ_eq_append_getElem hi, he]
  simp [allKids]
theorem allKids_take_le {ns : List Nod} (i : Nat) : (allKids (ns.take i)).length ≤ (allKids ns).length := by
  unfold allKids
  conv => rhs; rw [← List.take_append_drop i ns]
  rw [List.flatMap_append, List.length_append]
  omega
end Go.Bonsai
namespace Go.Proofs.YtlhkkngpppcfoaaDoor
open Go Go.Sl Go.RowKit Go.Bonsai
set_option linter.unusedVariables false
set_option linter.unusedSimpArgs false

theorem rright_any (v : Value) (t : Tre) (w : World) (hr : RTree (Old w) w v t) (ht : t.wf) (hkt : (allKids t.nodes).length ≤ bigL) :
    Calls Tryd.prog 43 #[v] w (RetV w (.bool (rightP t))) := by
  obtain ⟨ns, root⟩ := t
  obtain ⟨nv, rfl, A, c, rows, rfl, hA, hrows, hc⟩ := hr
  obtain ⟨hlen, hwn, hroot⟩ := ht
  simp only at hA hrows hlen hwn hroot hc hkt ⊢
  unfold bigN at hlen
  unfold bigL at hkt
  refine TC.calls (l := [.agg #[.slice A ns.length c, .int .i64 root]]) Tryd.func43 rfl Tryd.ntmps43 rfl (St.start w) ?_
  by_cases h1 : root < 0
  · have hc1 : decide (root < 0) = true := by simp [h1]
    repeat' (first | (refine W1 ?_) | (refine W2 (fun hc => ?_) (fun hc => ?_)) | (intro _))
    refine TX.ret_tmp rfl rfl (fun w' hw => RetV.eq hw ?_)
    rw [rightP_no (fun h => by have := h.root.1; simp only at this; omega)]
  have hc1 : decide (root < 0) = false := by simp [h1]
  by_cases h2 : (ns.length : Int) ≤ root
  · have hc2 : decide ((ns.length : Int) ≤ root) = true := by simp [h2]
    repeat' (first | (refine W1 ?_) | (refine W2 (fun hc => ?_) (fun hc => ?_)) | (intro _))
    refine TX.ret_tmp rfl rfl (fun w' hw => RetV.eq hw ?_)
    rw [rightP_no (fun h => by have := h.root.2; simp only at this; omega)]
  have hc2 : decide ((ns.length : Int) ≤ root) = false := by simp [h2]
  have hm1 : 8 * ns.length ≤ 281474976710656 := by omega
  repeat' (first | (refine W1 ?_) | (refine W2 (fun hc => ?_) (fun hc => ?_)) | (intro _))
  rename_i b B
  refine TC.loopA (ι := Nat) 0 (fun k r => (4, .int .i64 k) :: r)
    (fun k => St w [own 3 1 (some ⟨B, 0, none⟩) ns.length ns.length (irows (cnts ns.length (allKids (ns.take k)))), blk b [.slice A ns.length c, .int .i64 root] 24])
    (fun k => k ≤ ns.length ∧ NOk 0 (ns.take k)) (fun k => ns.length - k) KpA SubA (fun w' hw => by
      rw [irows_rep] at hw
      simp only [List.take_zero]
      rw [show allKids [] = [] from rfl, cnts_nil]
      exact St.inc IncA hw) ⟨Nat.zero_le _, by intro j n h; simp at h⟩ ?_
  rintro i ⟨hi, hok⟩
  by_cases hlt : i < ns.length
  · have hck : decide ((i : Int) < (ns.length : Int)) = true := by simp [hlt]
    have hns : ns[i]? = some ns[i] := List.getElem?_eq_getElem hlt
    obtain ⟨cs, hcs, kv, rfl, K, kc, rfl, hK, hkc⟩ := hrows.get hns
    have hwf := hwn _ (List.getElem_mem hlt)
    have hak := allKids_take hns
    have hal := allKids_take_le (ns := ns) (i + 1)
    have htk : ns.take (i + 1) = ns.take i ++ [ns[i]] := List.take_succ_eq_append_getElem hlt
    generalize hn : ns[i] = n at *
    have hkl := hwf.kids.1
    unfold bigL at hkl
    rw [hak, List.length_append] at hal
    have hA' : A = some (A.getD default) := hA.some_ (by omega)
    cases hf : fits n n.kids.length with
    | false =>
      have hfn : (!fits n n.kids.length) = true := by rw [hf]; rfl
      repeat' (first | (refine T.callV rfl rfl (fun w' hw' => rfits_any n _ _ w' hwf) ?_) | (refine W1 ?_) | (refine W2 (fun hc => ?_) (fun hc => ?_)) | (intro _))
      refine TX.ret_tmp rfl rfl (fun w' hw => RetV.eq hw ?_)
      rw [rightP_no (fun h => by have := h.fits i n hns; rw [hf] at this; cases this)]
    | true =>
      have hfn : (!fits n n.kids.length) = false := by rw [hf]; rfl
      repeat' (first | (refine T.callV rfl rfl (fun w' hw' => rfits_any n _ _ w' hwf) ?_) | (refine W1 ?_) | (refine W2 (fun hc => ?_) (fun hc => ?_)) | (intro _))
      rename_i b2
      refine TC.loopA (ι := Nat) 0 (fun k r => (6, .int .i64 k) :: r)
        (fun k => St w [own 3 1 (some ⟨B, 0, none⟩) ns.length ns.length (irows (cnts ns.length (allKids (ns.take i) ++ n.kids.take k))), blk b2 (n.cells (.slice K n.kids.length kc)) 34, blk b [.slice A ns.length c, .int .i64 root] 24])
        (fun k => k ≤ n.kids.length ∧ ∀ x ∈ n.kids.take k, 0 ≤ x ∧ x < (i : Int)) (fun k => n.kids.length - k) KpA SubA (fun w' hw => by simp only [List.take_zero, List.append_nil]; exact St.inc IncA hw) ⟨Nat.zero_le _, by simp⟩ ?_
      rintro j ⟨hj, hjk⟩
      by_cases hjt : j < n.kids.length
      · have hc4 : decide ((j : Int) < (n.kids.length : Int)) = true := by simp [hjt]
        have hkj : n.kids[j]? = some n.kids[j] := List.getElem?_eq_getElem hjt
        have htj : n.kids.take (j + 1) = n.kids.take j ++ [n.kids[j]] := List.take_succ_eq_append_getElem hjt
        have hmj := List.getElem_mem hjt
        generalize hk : n.kids[j] = x at *
        have hKs : K = some (K.getD default) := hK.some_ (by omega)
        by_cases x0 : x < 0
        · have hc5 : decide (x < 0) = true := by simp [x0]
          repeat' (first | (refine W1 ?_) | (refine W2 (fun hc => ?_) (fun hc => ?_)) | (intro _))
          refine TX.ret_tmp rfl rfl (fun w' hw => RetV.eq hw ?_)
          rw [rightP_no (fun h => by have := h.kok i n hns x hmj; omega)]
        have hc5 : decide (x < 0) = false := by simp [x0]
        by_cases x1 : (i : Int) ≤ x
        · have hc6 : decide ((i : Int) ≤ x) = true := by simp [x1]
          repeat' (first | (refine W1 ?_) | (refine W2 (fun hc => ?_) (fun hc => ?_)) | (intro _))
          refine TX.ret_tmp rfl rfl (fun w' hw => RetV.eq hw ?_)
          rw [rightP_no (fun h => by have := h.kok i n hns x hmj; omega)]
        have hc6 : decide ((i : Int) ≤ x) = false := by simp [x1]
        obtain ⟨y, rfl⟩ : ∃ y : Nat, x = y := ⟨x.toNat, by omega⟩
        have hy : y < ns.length := by omega
        have hq := cnts_get (allKids (ns.take i) ++ n.kids.take j) hy
        have hcl : (allKids (ns.take i) ++ n.kids.take j).count (y : Int) ≤ (allKids (ns.take i)).length + n.kids.length := by
          refine Nat.le_trans List.count_le_length ?_
          rw [List.length_append, List.length_take]; omega
        have e1 : (irows (cnts ns.length (allKids (ns.take i) ++ n.kids.take j))).set y (splice [.int .i64 (((allKids (ns.take i) ++ n.kids.take j).count (y : Int) : Nat) : Int)] 0 [.int .i64 ((((allKids (ns.take i) ++ n.kids.take j).count (y : Int) : Nat) : Int) + 1)]) = irows (cnts ns.length (allKids (ns.take i) ++ n.kids.take (j + 1))) := by
          rw [htj, ← List.append_assoc, ← cnts_snoc _ hy, irows_set]; rfl
        have hI : I64 ((((allKids (ns.take i) ++ n.kids.take j).count (y : Int) : Nat) : Int) + 1) := by unfold I64; omega
        generalize (((allKids (ns.take i) ++ n.kids.take j).count (y : Int) : Nat) : Int) = q at *
        repeat' (first | (refine W1 ?_) | (refine W2 (fun hc => ?_) (fun hc => ?_)) | (intro _))
        refine T.storeA (i := y) (o := 0) (r := [.int .i64 q]) rfl rfl rfl rfl rfl rfl UpdA (by omega) (irows_get hq) (by simp) ?_
        rw [e1]
        repeat' (first | (refine W1 ?_) | (refine W2 (fun hc => ?_) (fun hc => ?_)) | (intro _))
        refine TX.round (j + 1) ⟨by omega, fun x hx => ?_⟩ (by omega) SubA (fun w' hw => St.inc IncA hw)
        rw [htj] at hx
        rcases List.mem_append.1 hx with hx | hx
        · exact hjk x hx
        · simp at hx; omega
      · have hc4 : decide ((j : Int) < (n.kids.length : Int)) = false := by simp; omega
        rw [List.take_of_length_le (l := n.kids) (by omega)] at hjk ⊢
        repeat' (first | (refine W1 ?_) | (refine W2 (fun hc => ?_) (fun hc => ?_)) | (intro _))
        refine TX.round (i + 1) ⟨by omega, ?_⟩ (by omega) SubA (fun w' hw => by rw [hak]; exact St.inc IncA hw)
        rw [htk]
        refine NOk.app hok ?_
        intro a m hm
        cases a with
        | zero =>
          simp at hm; subst hm
          refine ⟨hf, fun x hx => ?_⟩
          have := hjk x hx
          rw [List.length_take]; omega
        | succ a => simp at hm
  · have hck : decide ((i : Int) < (ns.length : Int)) = false := by simp; omega
    rw [List.take_of_length_le (by omega)] at hok ⊢
    repeat' (first | (refine W1 ?_) | (refine W2 (fun hc => ?_) (fun hc => ?_)) | (intro _))
    refine TC.loopA (ι := Nat) 0 (fun k r => (7, .int .i64 k) :: r)
      (fun k => St w [own 3 1 (some ⟨B, 0, none⟩) ns.length ns.length (irows (cnts ns.length (allKids ns))), blk b [.slice A ns.length c, .int .i64 root] 24])
      (fun k => k ≤ ns.length ∧ ∀ m : Nat, m < k → (allKids ns).count (m : Int) = if (m : Int) = root then 0 else 1) (fun k => ns.length - k) KpA SubA (fun w' hw => hw) ⟨Nat.zero_le _, by omega⟩ ?_
    rintro k ⟨hk, hkm⟩
    by_cases hkt : k < ns.length
    · have hc4 : decide ((k : Int) < (ns.length : Int)) = true := by simp [hkt]
      have hq := irows_get (cnts_get (allKids ns) hkt)
      have hno : ¬ (allKids ns).count (k : Int) = (if (k : Int) = root then 0 else 1) → rightP ⟨ns, root⟩ = false := fun h => rightP_no fun hR => h (hR.count k hkt)
      have hyes : (allKids ns).count (k : Int) = (if (k : Int) = root then 0 else 1) → ∀ m : Nat, m < k + 1 → (allKids ns).count (m : Int) = if (m : Int) = root then 0 else 1 := by
        intro h m hm
        rcases Nat.lt_or_ge m k with h' | h'
        · exact hkm m h'
        · obtain rfl : m = k := by omega
          exact h
      generalize (allKids ns).count (k : Int) = q at *
      by_cases hkr : (k : Int) = root
      · have e1 : decide ((k : Int) = root) = true := by simp [hkr]
        have e2 : (!decide ((k : Int) = root)) = false := by simp [hkr]
        rw [if_pos hkr] at hno hyes
        by_cases hq0 : q = 0
        · have e3 : (!decide ((q : Int) = 0)) = false := by simp [hq0]
          repeat' (first | (refine W1 ?_) | (refine W2 (fun hc => ?_) (fun hc => ?_)) | (intro _))
          exact TX.round (k + 1) ⟨hkt, hyes hq0⟩ (by omega) SubA (fun w' hw => hw)
        · have e3 : (!decide ((q : Int) = 0)) = true := by simp; omega
          repeat' (first | (refine W1 ?_) | (refine W2 (fun hc => ?_) (fun hc => ?_)) | (intro _))
          exact TX.ret_tmp rfl rfl (fun w' hw => RetV.eq hw (by rw [hno hq0]))
      · have e1 : decide ((k : Int) = root) = false := by simp [hkr]
        have e2 : (!decide ((k : Int) = root)) = true := by simp [hkr]
        rw [if_neg hkr] at hno hyes
        by_cases hq1 : q = 1
        · have e3 : (!decide ((q : Int) = 1)) = false := by simp [hq1]
          repeat' (first | (refine W1 ?_) | (refine W2 (fun hc => ?_) (fun hc => ?_)) | (intro _))
          exact TX.round (k + 1) ⟨hkt, hyes hq1⟩ (by omega) SubA (fun w' hw => hw)
        · have e3 : (!decide ((q : Int) = 1)) = true := by simp; omega
          repeat' (first | (refine W1 ?_) | (refine W2 (fun hc => ?_) (fun hc => ?_)) | (intro _))
          exact TX.ret_tmp rfl rfl (fun w' hw => RetV.eq hw (by rw [hno hq1]))
    · have hc4 : decide ((k : Int) < (ns.length : Int)) = false := by simp; omega
      repeat' (first | (refine W1 ?_) | (refine W2 (fun hc => ?_) (fun hc => ?_)) | (intro _))
      refine TX.ret_tmp rfl rfl (fun w' hw => RetV.eq hw ?_)
      rw [rightP_of (t := ⟨ns, root⟩) ⟨by simp only; omega, by simp only; omega⟩ hok (fun i hi => hkm i (by simp only at hi; omega))]
end Go.Proofs.YtlhkkngpppcfoaaDoor
