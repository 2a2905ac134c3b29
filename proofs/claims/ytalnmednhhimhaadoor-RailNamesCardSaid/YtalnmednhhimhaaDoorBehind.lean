/-
  tree.behind, walked.
-/
import Derived.Test.YtalnmednhhimhaaDoorPureA
import Derived.Test.YtalnmednhhimhaaDoorRight
import Derived.Test.YtalnmednhhimhaaDoorHeap
import Derived.Test.YtalnmednhhimhaaDoorSlices
set_option linter.all false
namespace Go.Proofs.YtalnmednhhimhaaDoor
open Go Go.Sl Go.RowKit Go.Bonsai
set_option linter.unusedVariables false
set_option linter.unusedSimpArgs false

/-- new rows of ints -/
abbrev RetI (w : World) (xs : List Int) : Ending → World → Prop := Ret w (fun p : Option Addr × Nat => .slice p.1 xs.length p.2) (fun p => [own 3 1 p.1 xs.length p.2 (irows xs)]) (fun _ => True)

theorem behind_any (v : Value) (t : Tre) (node : Int) (ch : Int → List Int) (w : World) (hr : RTree (Old w) w v t) (ht : t.wf) (hch : ChOk ch) (hk : ∀ (i : Nat) n, t.nodes[i]? = some n → n.kids = ch i) (h0 : 0 ≤ node) (hn : node < t.nodes.length)
    (hN : (dfs ch t.nodes.length [node]).length ≤ bigL) :
    Calls Tryd.prog 63 #[v, .int .i64 node] w (RetI w (dfsP ch t.nodes.length [node])) := by
  obtain ⟨ns, root⟩ := t
  obtain ⟨nv, rfl, A, c, rows, rfl, hA, hrows, hc⟩ := hr
  obtain ⟨hlen, hwn, hroot⟩ := ht
  simp only at hA hrows hlen hwn hroot hc hk hn hN ⊢
  have hlen' := hlen
  unfold bigN at hlen
  refine TC.calls (l := [.agg #[.slice A ns.length c, .int .i64 root], .int .i64 node]) Tryd.func63 rfl Tryd.ntmps63 rfl (St.start w) ?_
  repeat' (first | (refine W1 ?_) | (refine W2 (fun hc => ?_) (fun hc => ?_)) | (intro _))
  rename_i b B
  have hroom : ∀ (op out : List Int), out ++ dfs (revC ch) ns.length op.reverse = dfs (revC ch) ns.length [node] → out.length + op.length ≤ 17592186044416 := by
    intro op out he
    have h1 := dfs_length_ge (ch := revC ch) ns.length op.reverse (by omega)
    have h2 := congrArg List.length he
    rw [dfs_revC_length ns.length [node], List.length_append] at h2
    unfold bigL at hN
    simp at h1
    omega
  refine TC.loop (ι := (Option Addr × Nat × Option Addr × Nat) × List Int × List Int) (fun k => [(2, .pointer (some ⟨b, 0, none⟩)), (6, .slice k.1.1 k.2.1.length k.1.2.1), (5, .slice k.1.2.2.1 k.2.2.length k.1.2.2.2)])
    (fun k => St w [own 3 1 k.1.2.2.1 k.2.2.length k.1.2.2.2 (irows k.2.2), own 3 1 k.1.1 k.2.1.length k.1.2.1 (irows k.2.1), blk b [.slice A ns.length c, .int .i64 root] 24])
    (fun k => (∀ x ∈ k.2.1, 0 ≤ x ∧ x < ns.length) ∧ k.2.2 ++ dfs (revC ch) ns.length k.2.1.reverse = dfs (revC ch) ns.length [node]) (fun k => (dfs (revC ch) ns.length k.2.1.reverse).length) ?_ ?_
  · exact TX.enter ((some ⟨B, 0, none⟩, 1, none, 0), [node], []) ⟨by simp; omega, by simp⟩ ⟨rfl, rfl, rfl, trivial⟩ (fun w' h => St.own_nil h)
  · rintro ⟨⟨A1, c1, A2, c2⟩, op, out⟩ ⟨hop, he⟩
    simp only at hop he ⊢
    have hrm := hroom op out he
    rcases list_snoc op with rfl | ⟨init, i, rfl⟩
    · have hc1 : decide (0 < (([] : List Int).length : Int)) = false := by simp
      repeat' (first | (refine W1 ?_) | (refine W2 (fun hc => ?_) (fun hc => ?_)) | (intro _))
      simp only [List.reverse_nil, dfs_nil, List.append_nil] at he
      refine T.callM (val := fun _ : Unit => .tuple #[]) rfl rfl (fun w' hw' => reverse_any A2 c2 out w' (by unfold bigL; simp at hrm; omega) hw') (fun _ => ?_)
      repeat' (first | (refine W1 ?_) | (refine W2 (fun hc => ?_) (fun hc => ?_)) | (intro _))
      refine TX.ret_tmp rfl rfl (fun w' hw => ?_)
      have e : out.reverse = dfsP ch ns.length [node] := by rw [he, show [node] = [node].reverse from rfl, dfs_rev]; rfl
      rw [← e]
      have hl : out.length = out.reverse.length := by simp
      rw [hl] at hw ⊢
      exact Ret.mk (A2, c2) trivial (.cons .here .nil) hw
    · have hc1 : decide (0 < ((init.length + 1 : Nat) : Int)) = true := by simp
      have hi := hop i (by simp)
      obtain ⟨i, rfl⟩ : ∃ y : Nat, i = y := ⟨i.toNat, by omega⟩
      have hlt : i < ns.length := by omega
      obtain ⟨cs, hcs, kv, rfl, K, kc, rfl, hK, hkc⟩ := hrows.get (List.getElem?_eq_getElem hlt)
      have hwf := hwn _ (List.getElem_mem hlt)
      have hkids := hk i _ (List.getElem?_eq_getElem hlt)
      generalize ns[i] = n at *
      have hlast : (init ++ [(i : Int)])[init.length]? = some (i : Int) := by simp
      have hA' : A = some (A.getD default) := hA.some_ (by omega)
      have hlen1 : (init ++ [(i : Int)]).length = init.length + 1 := by simp
      have he' : (out ++ [(i : Int)]) ++ dfs (revC ch) ns.length (init ++ n.kids).reverse = dfs (revC ch) ns.length [node] := by
        rw [← he, List.reverse_append, List.reverse_append, List.reverse_cons, List.reverse_nil, List.nil_append, List.singleton_append, dfs_cons hch.rev (by omega) (by omega), dfs_append, show revC ch i = (ch i).reverse from rfl, hkids]
        simp
      have hrm' := hroom _ _ he'
      simp only [List.length_append, List.length_cons, List.length_nil] at hrm'
      have hdec : (dfs (revC ch) ns.length (init ++ n.kids).reverse).length < (dfs (revC ch) ns.length (init ++ [(i : Int)]).reverse).length := by
        have h1 := congrArg List.length he
        have h2 := congrArg List.length he'
        simp only [List.length_append, List.length_cons, List.length_nil] at h1 h2
        omega
      have hop' : ∀ x ∈ init ++ n.kids, 0 ≤ x ∧ x < ns.length := by
        intro x hx
        rcases List.mem_append.1 hx with hx | hx
        · exact hop x (by simp [hx])
        · rw [hkids] at hx
          have := hch i x hx
          omega
      rw [hlen1] at hrm ⊢
      refine TC.fact (fun w hw => own.cap (hw.at_all AtA)) (fun hcap : init.length + 1 ≤ c1 => ?_)
      repeat' (first | (apply TL.pure_; exact rfl; exact rfl; apply Ev.slice_to (h := init.length); exact rfl; exact rfl; omega) | (refine W1 ?_) | (refine W2 (fun hc => ?_) (fun hc => ?_)) | (intro _))
      have htk : (irows (init ++ [(i : Int)])).take init.length = irows init := by simp [irows]
      refine TL.sub (fun w hw => St.weakAt (H' := own 3 1 A1 init.length c1 (irows init)) (.there .here) (fun S w h => htk ▸ own.take (Nat.le_succ _) h) hw) ?_
      apply TL.loud
      exact rfl
      exact rfl
      refine Ac.append (rows := irows init) (news := irows n.kids) rfl rfl DelA (fun w hw => St.old_arr hw hK) (fun _ _ => irows_oneB _) (by unfold maxLen; omega) (by omega)
      intro p
      repeat' (first | (refine W1 ?_) | (refine W2 (fun hc => ?_) (fun hc => ?_)) | (intro _))
      refine T.append (rows := irows out) (news := irows [(i : Int)]) rfl rfl rfl DelA (fun w hw => St.own_arr hw AtA) (fun _ _ => irows_oneB _) (by unfold maxLen; omega) (by omega) (fun A3 c3 => ?_)
      repeat' (first | (refine W1 ?_) | (refine W2 (fun hc => ?_) (fun hc => ?_)) | (intro _))
      refine TX.round ((p.1, p.2, A3, c3), init ++ n.kids, out ++ [(i : Int)]) ⟨hop', he'⟩ hdec ⟨rfl, ?_, ?_, trivial⟩ (fun w' h => ?_)
      · exact congrArg (fun z => some (Value.slice p.1 z p.2)) (by simp : init.length + n.kids.length = (init ++ n.kids).length)
      · exact congrArg (fun z => some (Value.slice A3 z c3)) (by simp : out.length + 1 = (out ++ [(i : Int)]).length)
      · have := St.inc (L' := [own 3 1 A3 (out.length + 1) c3 (irows out ++ irows [(i : Int)]), own 3 1 p.1 (init.length + n.kids.length) p.2 (irows init ++ irows n.kids), blk b [.slice A ns.length c, .int .i64 root] 24]) (.cons DelA (.cons DelA (.cons DelA .nil))) h
        simpa only [irows_append, List.length_append, List.length_cons, List.length_nil] using this
end Go.Proofs.YtalnmednhhimhaaDoor
