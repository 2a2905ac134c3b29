/-
  The law's own examples: works.
-/
import Derived.Test.YtlhkkngpppcfoaaDoorHelp
import Derived.Test.YtlhkkngpppcfoaaDoorFloat
set_option linter.all false
namespace Go.Bonsai
open Go Go.Sl Go.RowKit
def taN : Nod := ⟨2, .zero, ⟨#[97]⟩, 0, 0, []⟩
def rbN : Nod := ⟨3, .zero, ⟨#[98]⟩, 0, 0, []⟩
def seqN : Nod := ⟨4, .zero, ⟨#[]⟩, 0, 0, []⟩
def sqN : Nod := ⟨4, .zero, ⟨#[]⟩, 0, 0, [0, 1]⟩
def stN : Nod := ⟨4, .zero, ⟨#[]⟩, 0, 0, [1, 0]⟩
def sqT : Tre := ⟨[taN, rbN, sqN], 2⟩
def stT : Tre := ⟨[rbN, taN, stN], 2⟩
theorem sq_eq : ofP seqN [leafP taN, leafP rbN] = (sqT, true) := by decide +kernel
theorem st_walk : walkP stT = [2, 1, 0] := by decide +kernel
theorem st_same : sameP sqT stT = true := by decide +kernel
theorem smallN_wf {n : Nod} (h : 0 ≤ n.kind ∧ n.kind ≤ 255) (hs : n.set = .zero) (ht : n.text.size ≤ 100) (h1 : n.min = 0) (h2 : n.max = 0) (hk : n.kids.length ≤ 100) (hk' : ∀ k ∈ n.kids, 0 ≤ k ∧ k ≤ 100) : n.wf :=
  ⟨h, by rw [hs]; unfold Bts.wf; decide, by omega, by rw [h1]; unfold I64; decide, by rw [h2]; unfold I64; decide, ⟨by unfold bigL; omega, fun k hk => by have := hk' k hk; unfold I64; omega⟩⟩
theorem taN_wf : taN.wf := smallN_wf (by decide) rfl (by decide) rfl rfl (by decide) (by decide)
theorem rbN_wf : rbN.wf := smallN_wf (by decide) rfl (by decide) rfl rfl (by decide) (by decide)
theorem seqN_wf : seqN.wf := smallN_wf (by decide) rfl (by decide) rfl rfl (by decide) (by decide)
theorem sqN_wf : sqN.wf := smallN_wf (by decide) rfl (by decide) rfl rfl (by decide) (by decide)
theorem stN_wf : stN.wf := smallN_wf (by decide) rfl (by decide) rfl rfl (by decide) (by decide)
theorem leafP_wf {n : Nod} (h : n.wf) : (leafP n).wf := ⟨by unfold bigN leafP; simp, by intro m hm; simp [leafP] at hm; subst hm; exact h, by unfold I64 leafP; simp⟩
theorem sqT_wf : sqT.wf := ⟨by decide, by intro m hm; simp [sqT] at hm; rcases hm with rfl | rfl | rfl <;> first | exact taN_wf | exact rbN_wf | exact sqN_wf, by unfold I64; decide⟩
theorem stT_wf : stT.wf := ⟨by decide, by intro m hm; simp [stT] at hm; rcases hm with rfl | rfl | rfl <;> first | exact taN_wf | exact rbN_wf | exact stN_wf, by unfold I64; decide⟩
theorem RTrees.two {S S' S'' : Nat → Prop} {w : World} {A B C : Option Addr} {c d f e : Nat} {t u : Tre} (h : (own e 2 A 2 c [[.slice B t.nodes.length d, .int .i64 t.root], [.slice C u.nodes.length f, .int .i64 u.root]]).on S w) (h' : RNodes S' w (.slice B t.nodes.length d) t.nodes) (h'' : RNodes S'' w (.slice C u.nodes.length f) u.nodes) :
    RTrees (fun b => S b ∨ S' b ∨ S'' b) w (.slice A 2 c) [t, u] :=
  ⟨A, c, _, rfl, (own.arr h).mono fun _ h => .inl h, All2.snoc (l := [_]) (m := [_]) (All2.snoc (l := []) (m := []) .nil ⟨B, d, rfl, h'.mono fun _ h => .inr (.inl h)⟩) ⟨C, f, rfl, h''.mono fun _ h => .inr (.inr h)⟩, own.cap h⟩
/-- the example's nodes, opened -/
def hW (A : Option Addr) (c : Nat) (x : (Option Addr × Nat) × (Option Addr × Nat) × (Option Addr × Nat)) : HP :=
  ⟨fun S w => Arr 9 S w A 3 [taN.cells (.slice x.1.1 0 x.1.2), rbN.cells (.slice x.2.1.1 0 x.2.1.2), sqN.cells (.slice x.2.2.1 2 x.2.2.2)] ∧ Arr 1 S w x.2.2.1 2 (irows [0, 1]) ∧ 3 ≤ c ∧ 2 ≤ x.2.2.2,
    fun h hh => ⟨hh.1.mono h, hh.2.1.mono h, hh.2.2⟩, fun h hh => ⟨hh.1.loc h, hh.2.1.loc h, hh.2.2⟩⟩
instance {A : Option Addr} {c : Nat} {x : (Option Addr × Nat) × (Option Addr × Nat) × (Option Addr × Nat)} : HasArr (hW A c x) 9 A 3 [taN.cells (.slice x.1.1 0 x.1.2), rbN.cells (.slice x.2.1.1 0 x.2.1.2), sqN.cells (.slice x.2.2.1 2 x.2.2.2)] := ⟨fun _ _ h => h.1⟩
instance {A : Option Addr} {c : Nat} {x : (Option Addr × Nat) × (Option Addr × Nat) × (Option Addr × Nat)} : HasArr (hW A c x) 1 x.2.2.1 2 [[.int .i64 0], [.int .i64 1]] := ⟨fun _ _ h => h.2.1⟩
theorem hW_open {S : Nat → Prop} {w : World} {A : Option Addr} {c : Nat} (h : (hNodes (.slice A sqT.nodes.length c) sqT.nodes).on S w) : ∃ x, (hW A c x).on S w := by
  obtain ⟨A', c', rows, e, h1, h2, h3⟩ := hNodes_on h
  injection e with e1 e2 e3
  subst e1; subst e3
  obtain ⟨r0, g0, kv0, rfl, A0, c0, rfl, _, _⟩ := h2.get (i := 0) (b := taN) rfl
  obtain ⟨r1, g1, kv1, rfl, A1, c1, rfl, _, _⟩ := h2.get (i := 1) (b := rbN) rfl
  obtain ⟨r2, g2, kv2, rfl, A2, c2, rfl, hk, hc2⟩ := h2.get (i := 2) (b := sqN) rfl
  have hl : rows.length = 3 := h2.1
  have e : rows = [taN.cells (.slice A0 0 c0), rbN.cells (.slice A1 0 c1), sqN.cells (.slice A2 2 c2)] := by
    match rows, hl with
    | [a, b, d], _ =>
      simp at g0 g1 g2
      rw [g0, g1, g2]
      rfl
  rw [e] at h1
  exact ⟨((A0, c0), (A1, c1), (A2, c2)), h1, hk, h3, hc2⟩
theorem RInts.nil {S : Nat → Prop} {w : World} {A : Option Addr} {c : Nat} : RInts S w (.slice A 0 c) [] := ⟨A, c, rfl, Arr.nil, Nat.zero_le _⟩
theorem hW_nodes {S : Nat → Prop} {w : World} {A : Option Addr} {c : Nat} {x} (h : (hW A c x).on S w) : RNodes S w (.slice A sqT.nodes.length c) sqT.nodes :=
  ⟨A, c, _, rfl, h.1, All2.snoc (l := [_, _]) (m := [_, _]) (All2.snoc (l := [_]) (m := [_]) (All2.snoc (l := []) (m := []) .nil ⟨_, rfl, RInts.nil⟩) ⟨_, rfl, RInts.nil⟩) ⟨_, rfl, x.2.2.1, x.2.2.2, rfl, h.2.1, h.2.2.2⟩, h.2.2.1⟩
end Go.Bonsai
namespace Go.Proofs.YtlhkkngpppcfoaaDoor
open Go Go.Sl Go.RowKit Go.Bonsai
set_option linter.unusedVariables false
set_option linter.unusedSimpArgs false

set_option maxHeartbeats 2000000 in
theorem works_any (w : World) (hT : Tab w) : Calls Tryd.prog 16 #[] w (RetV w (.bool true)) := by
  refine TC.calls (l := []) Tryd.func16 rfl Tryd.ntmps16 rfl (St.start w) ?_
  repeat' (first | (refine W1 ?_) | (refine W2 (fun hc => ?_) (fun hc => ?_)) | (intro _))
  refine T.callR rfl rfl (fun w' hw' => tree_text ⟨#[97]⟩ w') (fun pa _ => ?_)
  refine T.callR rfl rfl (fun w' hw' => tree_rule ⟨#[98]⟩ w') (fun pb _ => ?_)
  refine T.lit (xs := [.tmp 7, .tmp 8]) rfl rfl rfl (by intro v hv; simp at hv; rcases hv with rfl | rfl <;> rfl) (by simp) rfl rfl (fun B => ?_)
  refine T.callR (val := fun p : Option Addr × Nat => .tuple #[.agg #[.slice p.1 3 p.2, .int .i64 2], .bool true]) (HL := fun p => [hNodes (.slice p.1 3 p.2) sqT.nodes]) (p := fun _ => True) rfl rfl (fun w' hw' => ?_) (fun p _ => ?_)
  · have h1 := RTrees.two (t := leafP taN) (u := leafP rbN) (hw'.at_all (H := own 24 2 (some ⟨B, 0, none⟩) 2 2 [[.slice pa.1 1 pa.2, .int .i64 0], [.slice pb.1 1 pb.2, .int .i64 0]]) AtA) (hNodes_on (hw'.at_all (H := hNodes (.slice pa.1 1 pa.2) [taN]) AtA)) (hNodes_on (hw'.at_all (H := hNodes (.slice pb.1 1 pb.2) [rbN]) AtA))
    have h2 := of_any seqN (.slice none 0 0) (.slice (some ⟨B, 0, none⟩) 2 2) [leafP taN, leafP rbN] w' seqN_wf (h1.mono (fun _ h => h.elim id (fun h => h.elim id id))) (by unfold bigN; simp) (by intro t ht; simp at ht; rcases ht with rfl | rfl <;> first | exact leafP_wf taN_wf | exact leafP_wf rbN_wf) (by decide) (Tab.st hT hw')
    rw [sq_eq] at h2
    exact h2
  · refine T.ex (fun w hw => St.weakEx (H := hNodes (.slice p.1 3 p.2) sqT.nodes) (fun S w h => hW_open h) hw) (fun x => ?_)
    repeat' (first | (refine TC.holdR 4 ?_) | (refine W1 ?_) | (refine W2 (fun hc => ?_) (fun hc => ?_)) | (intro _))
    rename_i b1
    refine ⟨TC.cutA (ι := Nat × Nat × Nat) (fun k r => (3, .pointer (some ⟨k.1, 0, none⟩)) :: r) (fun k => St w [blk k.1 [.slice (some ⟨k.2.2, 0, none⟩) 3 3, .int .i64 2] 24, own 34 9 (some ⟨k.2.2, 0, none⟩) 3 3 [rbN.cells (.slice x.2.1.1 0 x.2.1.2), taN.cells (.slice x.1.1 0 x.1.2), stN.cells (.slice (some ⟨k.2.1, 0, none⟩) 2 2)], own 3 1 (some ⟨k.2.1, 0, none⟩) 2 2 (irows [1, 0]), blk b1 [.slice p.1 3 p.2, .int .i64 2] 24, hW p.1 p.2 x]) KpA ?_ (fun k => ?_)⟩
    · refine TC.fact (fun w hw => (hw.at_all (H := hW p.1 p.2 x) AtA).1.some_ (by omega)) (fun hps : p.1 = some (p.1.getD default) => ?_)
      refine TC.lexF 12 [[0, 1, 2, 3, 4, 5, 6, 7, 12, 8, 9, 10, 11, 13], [0, 1, 2, 3, 4, 5, 6, 7, 8, 9, 12, 10, 11, 13], [0, 1, 2, 3, 4, 5, 6, 7, 8, 9, 10, 11, 12, 13]] mixed (by kernel_rfl) ⟨?_, ?_, ?_, trivial⟩
      all_goals repeat' (first | (refine W1l ?_) | (refine W2 (fun hc => ?_) (fun hc => ?_)) | (intro _))
      · rename_i u1 u2 u3 _
        exact TX.join (u1, u2, u3) SubA (fun w' hw => St.inc IncA hw)
      · rename_i u1 u2 u3 _
        exact TX.join (u2, u1, u3) SubA (fun w' hw => St.inc IncA hw)
      · rename_i u1 u2 u3 _
        exact TX.join (u3, u1, u2) SubA (fun w' hw => St.inc IncA hw)
    · obtain ⟨b3, B1, B2⟩ := k
      simp only
      have hst : ∀ (w' : World) (L : List HP), St w L w' → At L (own 34 9 (some ⟨B2, 0, none⟩) 3 3 [rbN.cells (.slice x.2.1.1 0 x.2.1.2), taN.cells (.slice x.1.1 0 x.1.2), stN.cells (.slice (some ⟨B1, 0, none⟩) 2 2)]) → At L (own 3 1 (some ⟨B1, 0, none⟩) 2 2 (irows [1, 0])) → RTree (Old w') w' (.agg #[.slice (some ⟨B2, 0, none⟩) 3 3, .int .i64 2]) stT := by
        intro w' L hw' h1 h2
        exact ⟨_, rfl, some ⟨B2, 0, none⟩, 3, _, rfl, St.own_arr hw' h1, All2.snoc (l := [_, _]) (m := [_, _]) (All2.snoc (l := [_]) (m := [_]) (All2.snoc (l := []) (m := []) .nil ⟨_, rfl, RInts.nil⟩) ⟨_, rfl, RInts.nil⟩) ⟨_, rfl, some ⟨B1, 0, none⟩, 2, rfl, St.own_arr hw' h2, Nat.le_refl _⟩, Nat.le_refl _⟩
      repeat' (first | (refine W1 ?_) | (refine W2 (fun hc => ?_) (fun hc => ?_)) | (intro _))
      refine T.callR (val := fun p : Option Addr × Nat => .slice p.1 3 p.2) (HL := fun p => [own 3 1 p.1 3 p.2 (irows [2, 1, 0])]) (p := fun _ => True) rfl rfl (fun w' hw' => ?_) (fun q _ => ?_)
      · have h1 := walk_any _ stT w' (hst w' _ hw' AtA AtA) stT_wf (Tab.st hT hw')
        rw [st_walk] at h1
        exact h1
      · repeat' (first | (refine W1 ?_) | (refine W2 (fun hc => ?_) (fun hc => ?_)) | (intro _))
        refine T.callV rfl rfl (fun w' hw' => sameT_any _ _ sqT stT w' ⟨_, rfl, hW_nodes (hw'.at_all (H := hW p.1 p.2 x) AtA)⟩ (hst w' _ hw' AtA AtA) sqT_wf stT_wf (Tab.st hT hw')) ?_
        rw [st_same]
        repeat' (first | (refine W1 ?_) | (refine W2 (fun hc => ?_) (fun hc => ?_)) | (intro _))
        refine T.callR rfl rfl (fun w' hw' => nots_any 100 w' (by decide) (Tab.st hT hw')) (fun q1 _ => ?_)
        repeat' (first | (refine W1 ?_) | (refine W2 (fun hc => ?_) (fun hc => ?_)) | (intro _))
        refine T.callV rfl rfl (fun w' hw' => right_any _ (notsP 100) w' (St.get_treeN hw' AtA) (notsP_wf 100 (by decide)) (Tab.st hT hw')) ?_
        rw [notsP_right]
        repeat' (first | (refine W1 ?_) | (refine W2 (fun hc => ?_) (fun hc => ?_)) | (intro _))
        refine T.callR rfl rfl (fun w' hw' => nots_any 100 w' (by decide) (Tab.st hT hw')) (fun q2 _ => ?_)
        repeat' (first | (refine W1 ?_) | (refine W2 (fun hc => ?_) (fun hc => ?_)) | (intro _))
        refine T.callV rfl rfl (fun w' hw' => may_any _ (notsP 100) w' (St.get_treeN hw' AtA) (notsP_wf 100 (by decide)) (Tab.st hT hw')) ?_
        rw [notsP_may]
        repeat' (first | (refine W1 ?_) | (refine W2 (fun hc => ?_) (fun hc => ?_)) | (intro _))
        exact TX.ret_tmp rfl rfl (fun w' hw => RetV.eq hw rfl)
end Go.Proofs.YtlhkkngpppcfoaaDoor
