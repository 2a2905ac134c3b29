/-
  bonsairef04.Walk, walked.
-/
import Derived.Test.YtlhkkngpppcfoaaDoorRefOf
set_option linter.all false
namespace Go.Proofs.YtlhkkngpppcfoaaDoor
open Go Go.Sl Go.RowKit Go.Bonsai
set_option linter.unusedVariables false
set_option linter.unusedSimpArgs false

theorem rwalk_any (v : Value) (t : Tre) (w : World) (hr : RTree (Old w) w v t) (ht : t.wf) (hkt : (allKids t.nodes).length ≤ bigL) :
    Calls Tryd.prog 49 #[v] w (RetI w (walkP t)) := by
  have hr0 := hr
  have ht0 := ht
  obtain ⟨ns, root⟩ := t
  obtain ⟨nv, rfl, A, c, rows0, rfl, hA, hrows, hc⟩ := hr
  obtain ⟨hlen, hwn, hroot⟩ := ht
  simp only at hA hrows hlen hwn hroot hc hkt ⊢
  have hlen' := hlen
  unfold bigN at hlen'
  refine TC.calls (l := [.agg #[.slice A ns.length c, .int .i64 root]]) Tryd.func49 rfl Tryd.ntmps49 rfl (St.start w) ?_
  cases hri : rightP ⟨ns, root⟩ with
  | false =>
    have hrin : (!rightP ⟨ns, root⟩) = true := by rw [hri]; rfl
    repeat' (first | (refine T.callV rfl rfl (fun w' hw' => rright_any _ ⟨ns, root⟩ w' (St.old_tree hw' hr0) ht0 hkt) ?_) | (refine W1 ?_) | (refine W2 (fun hc => ?_) (fun hc => ?_)) | (intro _))
    refine TX.ret_tmp rfl rfl (fun w' hw => ?_)
    have e : walkP ⟨ns, root⟩ = [] := by unfold walkP; rw [if_neg (by rw [hri]; simp)]
    rw [e]
    exact Ret.mk ((none : Option Addr), 0) trivial (.cons .here .nil) (St.own_nil hw)
  | true =>
    have hrin : (!rightP ⟨ns, root⟩) = false := by rw [hri]; rfl
    have hR := rightP_spec hri
    have hch := hR.kok.chOf
    have hrt := hR.root
    have hrl := (row_ok hR).len
    have hkc : ∀ (i : Nat) n, ns[i]? = some n → n.kids = chOf ns i := fun i n hi => chOf_get hi
    have e : walkP ⟨ns, root⟩ = rowP ⟨ns, root⟩ := by unfold walkP; rw [if_pos hri]
    rw [e]
    unfold rowP at hrl ⊢
    simp only at hrl hch hrt ⊢
    generalize chOf ns = ch at *
    have hm2 : 1 * 1 ≤ 281474976710656 := by omega
    repeat' (first | (refine T.callV rfl rfl (fun w' hw' => rright_any _ ⟨ns, root⟩ w' (St.old_tree hw' hr0) ht0 hkt) ?_) | (refine W1 ?_) | (refine W2 (fun hc => ?_) (fun hc => ?_)) | (intro _))
    rename_i b1 B
    have hroom : ∀ (op out : List Int), out ++ dfs ch ns.length op.reverse = dfs ch ns.length [root] → out.length + op.length ≤ 1466015503701 := by
      intro op out he
      have h1 := dfs_length_ge (ch := ch) ns.length op.reverse (by omega)
      have h2 := congrArg List.length he
      rw [hrl, List.length_append] at h2
      simp at h1
      omega
    refine TC.loopA (ι := (Option Addr × Nat × Option Addr × Nat) × List Int × List Int) ((some ⟨B, 0, none⟩, 1, none, 0), [root], [])
      (fun k r => (4, .slice k.1.1 k.2.1.length k.1.2.1) :: (3, .slice k.1.2.2.1 k.2.2.length k.1.2.2.2) :: r)
      (fun k => St w [own 3 1 k.1.2.2.1 k.2.2.length k.1.2.2.2 (irows k.2.2), own 3 1 k.1.1 k.2.1.length k.1.2.1 (irows k.2.1), blk b1 [.slice A ns.length c, .int .i64 root] 24])
      (fun k => (∀ x ∈ k.2.1, 0 ≤ x ∧ x < ns.length) ∧ k.2.2 ++ dfs ch ns.length k.2.1.reverse = dfs ch ns.length [root]) (fun k => (dfs ch ns.length k.2.1.reverse).length) KpA SubA (fun w' hw => St.own_nil hw) ⟨by simp; omega, by simp⟩ ?_
    rintro ⟨⟨A1, c1, A2, c2⟩, op, out⟩ ⟨hop, he⟩
    simp only at hop he ⊢
    have hrm := hroom op out he
    rcases list_snoc op with rfl | ⟨init, i, rfl⟩
    case inl =>
      have hc1 : decide (0 < (([] : List Int).length : Int)) = false := by simp
      simp only [List.reverse_nil, dfs_nil, List.append_nil] at he
      repeat' (first | (refine W1 ?_) | (refine W2 (fun hc => ?_) (fun hc => ?_)) | (intro _))
      refine TX.ret_tmp rfl rfl (fun w' hw => ?_)
      rw [← he]
      exact Ret.mk (A2, c2) trivial (.cons DelA .nil) hw
    case inr =>
      have hc1 : decide (0 < ((init.length + 1 : Nat) : Int)) = true := by simp
      have hi := hop i (by simp)
      obtain ⟨i, rfl⟩ : ∃ y : Nat, i = y := ⟨i.toNat, by omega⟩
      have hlt : i < ns.length := by omega
      obtain ⟨cs, hcs, kv, rfl, K, kc, rfl, hK, hkc2⟩ := hrows.get (List.getElem?_eq_getElem hlt)
      have hwf := hwn _ (List.getElem_mem hlt)
      have hkids := hkc i _ (List.getElem?_eq_getElem hlt)
      generalize ns[i] = n at *
      have hlast : (init ++ [(i : Int)])[init.length]? = some (i : Int) := by simp
      have hA' : A = some (A.getD default) := hA.some_ (by omega)
      have hlen1 : (init ++ [(i : Int)]).length = init.length + 1 := by simp
      have hkl := hwf.kids.1
      unfold bigL at hkl
      have he' : (out ++ [(i : Int)]) ++ dfs ch ns.length (init ++ n.kids.reverse).reverse = dfs ch ns.length [root] := by
        rw [← he, List.reverse_append, List.reverse_append, List.reverse_cons, List.reverse_nil, List.nil_append, List.singleton_append, dfs_cons hch (by omega) (by omega), dfs_append, List.reverse_reverse, hkids]
        simp
      have hrm' := hroom _ _ he'
      simp only [List.length_append, List.length_cons, List.length_nil, List.length_reverse] at hrm'
      have hdec : (dfs ch ns.length (init ++ n.kids.reverse).reverse).length < (dfs ch ns.length (init ++ [(i : Int)]).reverse).length := by
        have h1 := congrArg List.length he
        have h2 := congrArg List.length he'
        simp only [List.length_append, List.length_cons, List.length_nil] at h1 h2
        omega
      have hop' : ∀ x ∈ init ++ n.kids.reverse, 0 ≤ x ∧ x < ns.length := by
        intro x hx
        rcases List.mem_append.1 hx with hx | hx
        · exact hop x (by simp [hx])
        · rw [List.mem_reverse, hkids] at hx
          have := hch i x hx
          omega
      rw [hlen1] at hrm ⊢
      refine TC.fact (fun w hw => own.cap (hw.at_all AtA)) (fun hcap : init.length + 1 ≤ c1 => ?_)
      repeat' (first | (apply T.ev_; exact rfl; apply Ev.slice_to (h := init.length); exact rfl; exact rfl; omega) | (refine W1 ?_) | (refine W2 (fun hc => ?_) (fun hc => ?_)) | (intro _))
      have htk : (irows (init ++ [(i : Int)])).take init.length = irows init := by simp [irows]
      refine T.append (rows := irows out) (news := irows [(i : Int)]) rfl rfl rfl DelA (fun w hw => St.own_arr hw AtA) (fun _ _ => irows_oneB _) (by unfold maxLen; omega) (by omega) (fun A3 c3 => ?_)
      refine T.sub (fun w hw => St.weakAt (H := own 3 1 A1 (init.length + 1) c1 (irows (init ++ [(i : Int)]))) (H' := own 3 1 A1 init.length c1 (irows init)) UpdA (fun S w h => htk ▸ own.take (Nat.le_succ _) h) hw) ?_
      have hI1 : I64 ((n.kids.length : Int) - 1) := by unfold I64; omega
      repeat' (first | (apply T.ev_; exact rfl; apply Ev.sub (a := (n.kids.length : Int)); exact rfl; exact rfl; assumption) | (refine W1 ?_) | (refine W2 (fun hc => ?_) (fun hc => ?_)) | (intro _))
      refine TC.loopA (ι := (Option Addr × Nat) × Nat × Int) ((A1, c1), 0, (n.kids.length : Int) - 1) (fun k r => (4, .slice k.1.1 (init.length + k.2.1) k.1.2) :: (7, .int .i64 k.2.2) :: r)
        (fun k => St w [own 3 1 A3 (out.length + 1) c3 (irows out ++ irows [(i : Int)]), own 3 1 k.1.1 (init.length + k.2.1) k.1.2 (irows (init ++ n.kids.reverse.take k.2.1)), blk b1 [.slice A ns.length c, .int .i64 root] 24])
        (fun k => k.2.1 ≤ n.kids.length ∧ k.2.2 = (n.kids.length : Int) - 1 - k.2.1) (fun k => n.kids.length - k.2.1) KpA SubA (fun w' hw => by simp only [List.take_zero, List.append_nil]; exact St.inc IncA hw) ⟨Nat.zero_le _, by simp⟩ ?_
      rintro ⟨⟨A4, c4⟩, j, x⟩ ⟨hj, hx⟩
      simp only at hj hx ⊢
      by_cases hjl : j < n.kids.length
      · obtain ⟨q, rfl⟩ : ∃ q : Nat, x = q := ⟨x.toNat, by omega⟩
        have hck : decide (0 ≤ (q : Int)) = true := by simp
        have hql : q < n.kids.length := by omega
        have hkq : n.kids[q]? = some n.kids[q] := List.getElem?_eq_getElem hql
        have htj : n.kids.reverse.take (j + 1) = n.kids.reverse.take j ++ [n.kids[q]] := by
          rw [List.take_succ_eq_append_getElem (by simpa using hjl)]
          congr 2
          rw [List.getElem_reverse]
          congr 1
          omega
        generalize n.kids[q] = z at *
        have hKs : K = some (K.getD default) := hK.some_ (by omega)
        have hI2 : I64 ((q : Int) - 1) := by unfold I64; omega
        repeat' (first | (refine W1 ?_) | (refine W2 (fun hc => ?_) (fun hc => ?_)) | (intro _))
        refine T.append (rows := irows (init ++ n.kids.reverse.take j)) (news := irows [z]) rfl rfl rfl DelA (fun w hw => St.own_arr hw AtA) (fun _ _ => irows_oneB _) (by unfold maxLen; omega) (by omega) (fun A5 c5 => ?_)
        repeat' (first | (apply T.ev_; exact rfl; apply Ev.sub (a := (q : Int)); exact rfl; exact rfl; assumption) | (refine W1 ?_) | (refine W2 (fun hc => ?_) (fun hc => ?_)) | (intro _))
        refine TX.round ((A5, c5), j + 1, (q : Int) - 1) ⟨hjl, by show (q : Int) - 1 = (n.kids.length : Int) - 1 - ((j + 1 : Nat) : Int); omega⟩ (show n.kids.length - (j + 1) < n.kids.length - j by omega) SubA (fun w' hw => ?_)
        rw [htj, ← List.append_assoc, irows_append]
        exact St.inc IncA hw
      · have hck : decide (0 ≤ x) = false := by simp; omega
        obtain rfl : j = n.kids.length := by omega
        rw [List.take_of_length_le (by simp)]
        repeat' (first | (refine W1 ?_) | (refine W2 (fun hc => ?_) (fun hc => ?_)) | (intro _))
        refine TX.round ((A4, c4, A3, c3), init ++ n.kids.reverse, out ++ [(i : Int)]) ⟨hop', he'⟩ hdec ?_ (fun w' h => ?_)
        · refine ⟨?_, ?_, SubA⟩
          · exact congrArg (fun z => some (Value.slice A4 z c4)) (by simp : init.length + n.kids.length = (init ++ n.kids.reverse).length)
          · exact congrArg (fun z => some (Value.slice A3 z c3)) (by simp : out.length + 1 = (out ++ [(i : Int)]).length)
        · have := St.inc (L' := [own 3 1 A3 (out.length + 1) c3 (irows out ++ irows [(i : Int)]), own 3 1 A4 (init.length + n.kids.length) c4 (irows (init ++ n.kids.reverse)), blk b1 [.slice A ns.length c, .int .i64 root] 24]) IncA h
          simpa only [irows_append, List.length_append, List.length_cons, List.length_nil, List.length_reverse] using this
end Go.Proofs.YtlhkkngpppcfoaaDoor
