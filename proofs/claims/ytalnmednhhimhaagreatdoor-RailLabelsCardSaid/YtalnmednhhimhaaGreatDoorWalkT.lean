/-
  tree.Walk, walked; slices.Backward over ints.
-/
import Derived.Test.YtalnmednhhimhaaGreatDoorOf
import Derived.Test.YtalnmednhhimhaaGreatDoorRange
set_option linter.all false
namespace Go.Proofs.YtalnmednhhimhaaGreatDoor
open Go Go.Sl Go.RowKit Go.Bonsai
set_option linter.unusedVariables false
set_option linter.unusedSimpArgs false

theorem Ev.makeFunc {P : Program} {n : FD} {s : Sg} {M : World → Prop} {ty : TypeId} {f : Fn} {xs : List Operand} {vs : List Value} (hx : evs s xs = some vs) :
    Ev P n s M (.makeFunc f #[] xs.toArray) ty (.func f #[] vs.toArray) := by
  refine ⟨fun a w o ho ht hf hm => ?_⟩
  have h1 := evs_eq hf hx
  simp [execOp, ho, Instr.makeFunc, h1]

theorem backward_any (v : Value) (w : World) (hv : v.cells = #[v]) : Calls Tryz.prog 49 #[v] w (Ret w (fun b : Nat => .func (.func 82) #[] #[.pointer (some ⟨b, 0, none⟩)]) (fun b => [blk b [v] 33]) (fun _ => True)) := by
  refine TC.calls (l := [v]) Tryz.func49 rfl Tryz.ntmps49 rfl (St.start w) ?_
  repeat' (first | (apply T.box; exact rfl; exact rfl; exact hv) | (intro _) | (refine T.ev_ rfl (Ev.makeFunc (xs := [_]) rfl) ?_) | (refine W1 ?_) | (refine W2 (fun hc => ?_) (fun hc => ?_)) | (intro _))
  rename_i b
  refine TX.ret_tmp rfl rfl (fun w' hw => ?_)
  exact Ret.mk b trivial (.cons .here .nil) hw

theorem back1_any {w0 : World} (l b : Nat) (A : Option Addr) (c t : Nat) (xs : List Int) (LL : Nat → List HP) (w : World) (hl : xs.length ≤ bigL) (hb : ∀ k, At (LL k) (blk b [.slice A xs.length c] t))
    (hA : ∀ k w, St w0 (LL k) w → Arr 1 (Old w) w A xs.length (irows xs))
    (hY : ∀ k, k < xs.length → ∀ W, St w0 (LL k) W → YieldAt Fence.wide 8 Tryz.prog l #[.int .i64 ((xs.length - 1 - k : Nat) : Int), .int .i64 (xs.getD (xs.length - 1 - k) 0)] W (fun e W' => e = .returned (.bool true) ∧ St w0 (LL (k + 1)) W'))
    (hW : St w0 (LL 0) w) : Calls Tryz.prog 82 #[.func (.yield l) #[] #[], .pointer (some ⟨b, 0, none⟩)] w (fun e w' => ∃ v, e = .returned v ∧ St w0 (LL xs.length) w') := by
  unfold bigL at hl
  refine TC.calls (l := [.func (.yield l) #[] #[], .pointer (some ⟨b, 0, none⟩)]) (M := St w0 (LL 0)) Tryz.func82 rfl Tryz.ntmps82 rfl hW ?_
  have hs1 : I64 ((xs.length : Int) - 1) := by unfold I64; omega
  repeat' (first | (refine T.ev_ rfl (Ev.load1b rfl (hb 0) rfl) ?_) | (refine W1 ?_) | (refine W2 (fun hc => ?_) (fun hc => ?_)) | (intro _))
  refine TC.loopA (ι := Nat) 0 (fun k r => (3, .int .i64 ((xs.length : Int) - 1 - k)) :: r) (fun k => St w0 (LL k)) (fun k => k ≤ xs.length) (fun k => xs.length - k) KpA (by simpa using SubA) (fun _ h => h) (Nat.zero_le _) ?_
  intro k hk
  by_cases hlt : k < xs.length
  · have hj : (xs.length : Int) - 1 - k = ((xs.length - 1 - k : Nat) : Int) := by omega
    have hc1 : decide (0 ≤ ((xs.length - 1 - k : Nat) : Int)) = true := by simp
    have hgx : xs[xs.length - 1 - k]? = some (xs.getD (xs.length - 1 - k) 0) := by
      rw [List.getD_eq_getElem?_getD, List.getElem?_eq_getElem (by omega)]
      rfl
    rw [hj]
    repeat' (first | (refine TC.holdR 3 ?_) | (refine W1 ?_) | (refine W2 (fun hc => ?_) (fun hc => ?_)) | (intro _))
    refine ⟨TC.seq (TC.regionF ?_)⟩
    repeat' (first | (refine TF.ev_ rfl (Ev.load1b rfl (hb k) rfl) ?_) | (refine TF.ev_ rfl (Ev.indexAddr rfl rfl (by omega) (fun w hw => (hA k w hw).some_ (by omega))) ?_) | (refine TF.ev_ rfl (Ev.cell0 rfl rfl (hA k) (irows_get hgx) rfl) ?_) | (refine TF.yield (l := l) rfl rfl (xs := [.tmp 12, .tmp 16]) rfl (hY k hlt) ?_) | (refine W1f ?_) | (intro _))
    repeat' (first | (refine W1 ?_) | (refine W2 (fun hc => ?_) (fun hc => ?_)) | (intro _))
    exact TX.round (k + 1) hlt (by omega) ⟨congrArg (fun z => some (Value.int .i64 z)) (by omega), SubA⟩ (fun w' hw => hw)
  · obtain rfl : k = xs.length := by omega
    have hc1 : decide (0 ≤ (xs.length : Int) - 1 - xs.length) = false := by simp; omega
    repeat' (first | (refine W1 ?_) | (refine W2 (fun hc => ?_) (fun hc => ?_)) | (intro _))
    exact TX.end0 rfl (fun w' hw => ⟨_, rfl, hw⟩)
/-- a boxed slice of one's own -/
def hBox (b : Nat) (t : TypeId) (xs : List Int) : HP := hEx fun p : Option Addr × Nat => hSep [own 3 1 p.1 xs.length p.2 (irows xs), blk b [.slice p.1 xs.length p.2] t]
theorem hBox_mk {w0 w : World} {L : List HP} {b : Nat} {t : TypeId} {xs : List Int} {A : Option Addr} {c : Nat} (h : St w0 (own 3 1 A xs.length c (irows xs) :: blk b [.slice A xs.length c] t :: L) w) : St w0 (hBox b t xs :: L) w :=
  St.shutEx (f := fun p : Option Addr × Nat => hSep [own 3 1 p.1 xs.length p.2 (irows xs), blk b [.slice p.1 xs.length p.2] t]) (A, c) (St.shutSep (K := [_, _]) h)
theorem hBox_open {w0 w : World} {L L' : List HP} {b : Nat} {t : TypeId} {xs : List Int} (hd : Del L (hBox b t xs) L') (h : St w0 L w) : ∃ p : Option Addr × Nat, St w0 (own 3 1 p.1 xs.length p.2 (irows xs) :: blk b [.slice p.1 xs.length p.2] t :: L') w := by
  obtain ⟨p, hp⟩ := St.openEx (h.del hd)
  exact ⟨p, St.openSep hp⟩

set_option maxHeartbeats 4000000 in
theorem walk_any (v : Value) (t : Tre) (w : World) (hr : RTree (Old w) w v t) (ht : t.wf) (hT : Tab w) :
    Calls Tryz.prog 22 #[v] w (RetI w (walkP t)) := by
  have hr0 := hr
  have ht0 := ht
  obtain ⟨ns, root⟩ := t
  obtain ⟨nv, rfl, A, c, rows0, rfl, hA, hrows, hc⟩ := hr
  obtain ⟨hlen, hwn, hroot⟩ := ht
  simp only at hA hrows hlen hwn hroot hc ⊢
  have hlen' := hlen
  unfold bigN at hlen'
  refine TC.callsM (l := [.agg #[.slice A ns.length c, .int .i64 root]]) Tryz.func22 rfl Tryz.ntmps22 rfl (St.start w) ?_
  cases hri : rightP ⟨ns, root⟩ with
  | false =>
    have hrin : (!rightP ⟨ns, root⟩) = true := by rw [hri]; rfl
    repeat' (first | (refine T.callV rfl rfl (fun w' hw' => right_any _ ⟨ns, root⟩ w' (St.old_tree hw' hr0) ht0 (Tab.st hT hw')) ?_) | (refine W1 ?_) | (refine W2 (fun hc => ?_) (fun hc => ?_)) | (intro _))
    refine TX.retM_tmp rfl rfl (fun w' hw => hw.push (H := marks []) Chg.refl trivial) (fun w' hw => ?_)
    have e : walkP ⟨ns, root⟩ = [] := by unfold walkP; rw [if_neg (by rw [hri]; simp)]
    rw [e]
    exact Ret.mk ((none : Option Addr), 0) trivial (.cons .here .nil) (St.own_nil hw)
  | true =>
    have hrin : (!rightP ⟨ns, root⟩) = false := by rw [hri]; rfl
    have hR := rightP_spec hri
    have hch := hR.kok.chOf
    have hrt := hR.root
    have hrl := (row_ok hR).len
    have e : walkP ⟨ns, root⟩ = rowP ⟨ns, root⟩ := by unfold walkP; rw [if_pos hri]
    rw [e]
    unfold rowP at hrl ⊢
    simp only at hrl hch hrt ⊢
    have hm1 : 8 * ns.length ≤ 281474976710656 := by omega
    repeat' (first | (refine T.callV rfl rfl (fun w' hw' => right_any _ ⟨ns, root⟩ w' (St.old_tree hw' hr0) ht0 (Tab.st hT hw')) ?_) | (refine W1 ?_) | (refine W2 (fun hc => ?_) (fun hc => ?_)) | (intro _))
    rename_i b0 C B b4
    have hroom : ∀ (op out : List Int), out ++ dfs (chOf ns) ns.length op.reverse = dfs (chOf ns) ns.length [root] → out.length + op.length ≤ 1466015503701 := by
      intro op out he
      have h1 := dfs_length_ge (ch := chOf ns) ns.length op.reverse (by omega)
      have h2 := congrArg List.length he
      rw [hrl, List.length_append] at h2
      simp at h1
      omega
    refine TC.loopM (ι := (Option Addr × Nat × Nat) × List Int × List Int × List Deferred) ((some ⟨C, 0, none⟩, 0, ns.length), [root], [], []) (fun k => k.2.2.2)
      (fun k r => (3, .slice k.1.1 k.1.2.1 k.1.2.2) :: r)
      (fun k => St w [hBox b4 33 k.2.1, own 3 1 k.1.1 k.1.2.1 k.1.2.2 (irows k.2.2.1), marks k.2.2.2, blk b0 [.slice A ns.length c, .int .i64 root] 27])
      (fun k => (∀ x ∈ k.2.1, 0 ≤ x ∧ x < ns.length) ∧ k.2.2.1.length = k.1.2.1 ∧ k.2.2.1 ++ dfs (chOf ns) ns.length k.2.1.reverse = dfs (chOf ns) ns.length [root])
      (fun k => (dfs (chOf ns) ns.length k.2.1.reverse).length) KpA SubA rfl ?_ ⟨by simp; omega, rfl, by simp⟩ ?_
    · intro w' hw
      have h0 := hw.push (H := marks []) Chg.refl trivial
      have h1 := St.inc (L' := [own 3 1 (some ⟨B, 0, none⟩) 1 1 (irows [root]), blk b4 [.slice (some ⟨B, 0, none⟩) 1 1] 33, own 3 1 (some ⟨C, 0, none⟩) 0 ns.length (irows []), marks [], blk b0 [.slice A ns.length c, .int .i64 root] 27]) IncA h0
      exact hBox_mk (xs := [root]) h1
    · rintro ⟨⟨A2, m2, c2⟩, op, out, ds⟩ ⟨hop, hol, he⟩
      simp only at hop hol he ⊢
      have hrm := hroom op out he
      refine TC.ex (fun w hw => hBox_open DelA hw) (fun p1 => ?_)
      rcases list_snoc op with rfl | ⟨init, i, rfl⟩
      · have hc1 : decide (0 < (([] : List Int).length : Int)) = false := by simp
        simp only [List.reverse_nil, dfs_nil, List.append_nil] at he
        subst hol
        repeat' (first | (refine W1 ?_) | (refine W2 (fun hc => ?_) (fun hc => ?_)) | (intro _))
        refine TX.retM_tmp rfl rfl (fun w' hw => St.del (H := marks ds) DelA hw) (fun w' hw => ?_)
        rw [← he]
        exact Ret.mk (A2, c2) trivial (.cons DelA .nil) hw
      · have hc1 : decide (0 < ((init.length + 1 : Nat) : Int)) = true := by simp
        have hi := hop i (by simp)
        obtain ⟨i, rfl⟩ : ∃ y : Nat, i = y := ⟨i.toNat, by omega⟩
        have hlt : i < ns.length := by omega
        obtain ⟨cs, hcs, kv, rfl, K, kc, rfl, hK, hkc⟩ := hrows.get (List.getElem?_eq_getElem hlt)
        have hwf := hwn _ (List.getElem_mem hlt)
        have hkids := chOf_get (List.getElem?_eq_getElem hlt)
        generalize ns[i] = n at *
        have hlast : (init ++ [(i : Int)])[init.length]? = some (i : Int) := by simp
        have hA' : A = some (A.getD default) := hA.some_ (by omega)
        have hlen1 : (init ++ [(i : Int)]).length = init.length + 1 := by simp
        have he' : (out ++ [(i : Int)]) ++ dfs (chOf ns) ns.length (init ++ n.kids.reverse).reverse = dfs (chOf ns) ns.length [root] := by
          rw [← he, List.reverse_append, List.reverse_append, List.reverse_reverse, List.reverse_cons, List.reverse_nil, List.nil_append, List.singleton_append, dfs_cons hch (by omega) (by omega), dfs_append, hkids]
          simp
        have hrm' := hroom _ _ he'
        have hdec : (dfs (chOf ns) ns.length (init ++ n.kids.reverse).reverse).length < (dfs (chOf ns) ns.length (init ++ [(i : Int)]).reverse).length := by
          have h1 := congrArg List.length he
          have h2 := congrArg List.length he'
          simp only [List.length_append, List.length_cons, List.length_nil] at h1 h2
          omega
        have hop' : ∀ x ∈ init ++ n.kids.reverse, 0 ≤ x ∧ x < ns.length := by
          intro x hx
          rcases List.mem_append.1 hx with hx | hx
          · exact hop x (by simp [hx])
          · rw [List.mem_reverse, hkids] at hx
            have := hch i x hx
            omega
        simp only [List.length_append, List.length_cons, List.length_nil, List.length_reverse] at hrm'
        rw [hlen1] at hrm ⊢
        refine TC.fact (fun w hw => own.cap (hw.at_all At.here)) (fun hcap : init.length + 1 ≤ p1.2 => ?_)
        repeat' (first | (refine W1 ?_) | (refine W2 (fun hc => ?_) (fun hc => ?_)) | (intro _))
        refine T.ev_ rfl (Ev.slice_to (h := init.length) rfl rfl (by omega)) ?_
        repeat' (first | (refine W1 ?_) | (refine W2 (fun hc => ?_) (fun hc => ?_)) | (intro _))
        refine T.append (rows := irows out) (news := irows [(i : Int)]) rfl rfl rfl DelA (fun w hw => St.own_arr hw AtA) (fun _ _ => irows_oneB _) (by unfold maxLen; omega) (by omega) (fun A3 c3 => ?_)
        repeat' (first | (refine W1 ?_) | (refine W2 (fun hc => ?_) (fun hc => ?_)) | (intro _))
        refine T.callR rfl rfl (fun w' hw' => backward_any (.slice K n.kids.length kc) w' rfl) (fun b5 _ => ?_)
        repeat' (first | (refine W1 ?_) | (refine W2 (fun hc => ?_) (fun hc => ?_)) | (intro _))
        have htk : (irows (init ++ [(i : Int)])).take init.length = irows init := by simp [irows]
        refine TC.range2 (e1 := fun k => .int .i64 ((n.kids.length - 1 - k : Nat) : Int)) (e2 := fun k => .int .i64 (n.kids.getD (n.kids.length - 1 - k) 0)) (K := n.kids.length) rfl rfl rfl
          (fun k => [hBox b4 33 (init ++ n.kids.reverse.take k), blk b5 [.slice K n.kids.length kc] 33, own 3 1 A3 (m2 + 1) c3 (irows (out ++ [(i : Int)])), marks ds, blk b0 [.slice A ns.length c, .int .i64 root] 27]) ?_ ?_ ?_ ?_
        · intro w' hw
          rw [irows_append]
          have h1 := St.weakAt (H := own 3 1 p1.1 (init.length + 1) p1.2 (irows (init ++ [(i : Int)]))) (H' := own 3 1 p1.1 init.length p1.2 (irows init)) UpdA (fun S w h => htk ▸ own.take (Nat.le_succ _) h) hw
          have h2 := St.inc (L' := [own 3 1 p1.1 init.length p1.2 (irows init), blk b4 [.slice p1.1 init.length p1.2] 33, blk b5 [.slice K n.kids.length kc] 33, own 3 1 A3 (m2 + 1) c3 (irows out ++ irows [(i : Int)]), marks ds, blk b0 [.slice A ns.length c, .int .i64 root] 27]) IncA h1
          simp only [List.take_zero, List.append_nil]
          exact hBox_mk h2
        · intro l rec D W hY hW
          have := back1_any l b5 K kc 33 n.kids (fun k => obj l rec :: obj D (.deferred (some [])) :: [hBox b4 33 (init ++ n.kids.reverse.take k), blk b5 [.slice K n.kids.length kc] 33, own 3 1 A3 (m2 + 1) c3 (irows (out ++ [(i : Int)])), marks ds, blk b0 [.slice A ns.length c, .int .i64 root] 27]) W hwf.kids.1 (fun k => AtA) (fun k w hw => St.old_arr hw hK) hY hW
          simpa using this
        · intro k hk l D r1 r2 R hR
          refine TCF.region ?_
          repeat' (first | (refine W1f ?_) | (intro _))
          refine ⟨fun a w hf hm => hR _ ?_ a w hf hm⟩
          refine TCF.block (TCF.region ?_)
          refine TF.ex (fun w hw => hBox_open DelA hw) (fun p2 => ?_)
          have hlk : (init ++ n.kids.reverse.take k).length = init.length + k := by simp; omega
          rw [hlk]
          have hstep : init ++ n.kids.reverse.take (k + 1) = (init ++ n.kids.reverse.take k) ++ [n.kids.getD (n.kids.length - 1 - k) 0] := by
            rw [List.take_succ_eq_append_getElem (by simpa using hk), List.append_assoc]
            congr 3
            rw [List.getElem_reverse, List.getD_eq_getElem?_getD, List.getElem?_eq_getElem (by omega)]
            rfl
          rw [hstep]
          generalize n.kids.getD (n.kids.length - 1 - k) 0 = kk at *
          generalize init ++ n.kids.reverse.take k = opk at *
          repeat' (first | (refine W1f ?_) | (intro _))
          refine TF.append (rows := irows opk) (news := irows [kk]) rfl rfl rfl DelA (fun w hw => St.own_arr hw AtA) (fun _ _ => irows_oneB _) (by unfold maxLen; omega) (by omega) (fun A6 c6 => ?_)
          repeat' (first | (refine W1f ?_) | (intro _))
          refine ⟨fun a w hf hm => ⟨rfl, ?_⟩⟩
          have h1 := St.inc (L' := [own 3 1 A6 (init.length + k + 1) c6 (irows opk ++ irows [kk]), blk b4 [.slice A6 (init.length + k + 1) c6] 33, obj l r2, obj D (.deferred (some [])), blk b5 [.slice K n.kids.length kc] 33, own 3 1 A3 (m2 + 1) c3 (irows (out ++ [(i : Int)])), marks ds, blk b0 [.slice A ns.length c, .int .i64 root] 27]) IncA hm
          rw [← irows_append, show init.length + k + 1 = (opk ++ [kk]).length by simp [hlk]] at h1
          exact St.inc IncA (hBox_mk h1)
        · intro D
          repeat' (first | (refine W1 ?_) | (refine W2 (fun hc => ?_) (fun hc => ?_)) | (intro _))
          rw [List.take_of_length_le (by simp)]
          refine TX.roundM ((A3, m2 + 1, c3), init ++ n.kids.reverse, out ++ [(i : Int)], { target := .collected D, args := #[] } :: ds) ⟨hop', by simp [hol], he'⟩ hdec rfl SubA (fun w' hw => ?_)
          have h0 := St.del (H := marks ds) DelA hw
          have h1 := St.del (H := obj D (.deferred (some []))) DelA h0
          have h2 := St.joinD (K := marks ({ target := .collected D, args := #[] } :: ds)) (fun S S' w h h' hd => marks_cons h h' hd) h1
          exact St.inc IncA h2
end Go.Proofs.YtalnmednhhimhaaGreatDoor
