/-
  The card of ExprNormal: whatever comes in, ExprNormal answers true, and what came in reads as it did. No condition but the card's own: the listed variable holds what the program's text lays.
-/
import Derived.Test.YtlhkkngpppcfoaaDoorExprNormal
import Derived.Test.YtlhkkngpppcfoaaDoorLaid
import Derived.Carry
set_option linter.all false
namespace Go.Proofs.YtlhkkngpppcfoaaDoor
open Go Go.Sl Go.RowKit Go.Bonsai
open Go.ChangeShapes Go.WideShapes Go.ChangeAt
set_option linter.unusedVariables false

set_option maxRecDepth 100000 in
theorem exprNormal_lifted (os : Os) (started : os.Started) (H : Type) (enc : TypeId × Value → H) :
    ReturnsInHanded {} Tryd.checked os 15 .any (fun w args => (Rows.exprNormalSpec.pre enc Tryd.prog Tryd.f15 [] false w args ∧ laidMetH Tryd.prog laid1 w) ∧ sizedMet enc Tryd.prog Tryd.f15 (OpenSpec.ofChange Rows.exprNormalSpec) false w args)
      (Rows.exprNormalSpec.post enc Tryd.prog Tryd.f15 false true false false) := by
  refine returnsInHanded_of_change_and (C := Tryd.checked) (X := fun w _ => laidMetH Tryd.prog laid1 w) (fun _ _ _ hh h => h.of_heap hh) own_ started (by kernel_rfl) Tryd.func15
    (ChangeSpec.witness_shaped (enc := enc) (C := Tryd.checked) (os := os) (X := fun w _ => laidMetH Tryd.prog laid1 w) false (World.doorLaid Tryd.prog 400 os) #[.agg #[.slice none 0 0, .int .i64 0], .slice none 0 0] 8 rfl (World.shaped_of_RefB (by kernel_rfl) (by kernel_rfl)) (by kernel_rfl) (by kernel_rfl) (by kernel_rfl) (door_met os _)) ?_
  intro W base args ds gs before hval0 hW _ hsz0 hL _
  have hsz := sized_of hsz0
  have hlt : ∀ x ∈ before, x.block < W.heap.size := fun x hx => by simpa using hW.lt x hx
  have hW' := hW
  obtain ⟨p, q, hA0, hV, rfl, hfz, hnd⟩ := hW
  have hA : DataW.TrodAll enc Tryd.prog W 0 (fun _ => true) true Tryd.f15.params.toList args.toList ds p := hA0
  rw [Tryd.params15] at hA hsz hval0
  obtain ⟨v1, v2, d1, d2, p1, p2, rfl, rfl, rfl, h1, h2⟩ := trodAll_two hA
  obtain ⟨rfl, rfl⟩ := trodVars_none hV
  have h1' := h1
  obtain ⟨_, h1⟩ := h1
  obtain ⟨x1, ht1, hw1⟩ := open_tree h1 (hsz 0 _ _ rfl rfl)
  have h2' := h2
  obtain ⟨a2, n2, k2, rfl⟩ := okWide_slice Tryd.underlying35 (hval0 1 _ _ rfl rfl)
  obtain ⟨_, h2⟩ := h2
  obtain ⟨x2, A2, c2, e2, hr2, hl2, hw2⟩ := open_trees h2 (hsz 1 _ _ rfl rfl)
  simp only [List.append_nil] at hW' hlt
  obtain ⟨A1, c1, e1, hr1⟩ := ht1
  have e1 := agg_of_cells e1
  subst e1
  have hb1 : ∀ x ∈ p1, x.block < W.heap.size := fun x hx => hlt x (by simp [hx])
  have hlr2 : x2.length ≤ 4398046511104 := by rw [reach_eq] at hl2; omega
  simp only [Value.cells, List.cons.injEq, and_true] at e2
  injection e2 with ea2 en2 ec2
  subst ea2 en2 ec2
  have hb2 : ∀ x ∈ p2, x.block < W.heap.size := fun x hx => hlt x (by simp [hx])
  have hxTree : ∀ W' : World, Below W.heap.size W W' → ∀ (v d p), DataW.Trod enc Tryd.prog W 0 (fun _ => true) true 24 v d p → (∀ x ∈ p, x.block < W.heap.size) → DataW.Trod enc Tryd.prog W' 0 (fun b => decide (b < W.heap.size)) true 24 v d p :=
    fun W' hb v d p h hp => Below.trod laidOut_ (by kernel_rfl) (of_decide_eq_true (by kernel_rfl)) h hb hp
  have hxTrees : ∀ W' : World, Below W.heap.size W W' → ∀ (v d p), DataW.Trod enc Tryd.prog W 0 (fun _ => true) true 35 v d p → (∀ x ∈ p, x.block < W.heap.size) → DataW.Trod enc Tryd.prog W' 0 (fun b => decide (b < W.heap.size)) true 35 v d p :=
    fun W' hb v d p h hp => Below.trod laidOut_ (by kernel_rfl) (of_decide_eq_true (by kernel_rfl)) h hb hp
  refine (exprNormal_any _ _ x1 x2 W ⟨_, rfl, hr1⟩ hr2 hw1 hlr2 hw2 (tab_of_laid hL)).mono fun e W' ⟨he, hb⟩ => ?_
  subst he
  try simp only [List.append_assoc] at hW'
  exact ⟨_, rfl, _, _, _, [], p1 ++ p2, [], hW', trodAll_mk1 (shut_bool Tryd.underlying4 _), trodAll_mk2 (hxTree W' hb _ _ _ h1' hb1) (hxTrees W' hb _ _ _ h2' hb2), rfl, hb.frame _, fun h => by cases h⟩

set_option maxRecDepth 100000 in
theorem exprNormal_holds : Rows.ExprNormalSaid :=
  OpenClaim.holds_of_wide 15 Tryd.f15 rfl rfl rfl rfl rfl rfl rfl ⟨rfl, rfl, rfl, rfl, rfl⟩ rfl rfl rfl rfl rfl (by kernel_rfl) Tryd.func15 (by kernel_rfl)
    (of_decide_eq_true (by kernel_rfl)) (by unfold Func.isWrapper; first | (rw [if_pos (by decide +kernel)]; kernel_rfl) | (rw [if_neg (by decide +kernel)]; exact ⟨rfl, rfl⟩))
    (fun os started H enc _ => exprNormal_lifted os started H enc)

set_option maxRecDepth 100000 in
theorem exprNormal_card_holds : Rows.ExprNormalCardSaid :=
  Claim7.holds_tied_plain_at .later [] [.data] true (true, "44ae6e65f696759b12e6a4df0d7bdf0cb993e442394bb2c9b4a6f37a543be2fe") false
    exprNormal_holds (fun _ h => by cases h) (by kernel_rfl) (fun _ h => by cases h) exprNormal_row_tie rfl ⟨rfl, rfl⟩ (by kernel_rfl) rfl
    (fun f fn hf hfn => by
      obtain rfl : f = 15 := Option.some.inj ((show Tryd.prog.funcNamed "bonsai/bonsailaw05.ExprNormal" = some 15 by kernel_rfl).symm.trans hf) |>.symm
      obtain rfl : fn = Tryd.f15 := (Option.some.inj (Tryd.func15.symm.trans hfn)).symm
      exact ⟨by kernel_rfl, fun j t ht => by
        rw [Tryd.params15] at ht
        have hm : t ∈ [24, 35] := by simpa using Array.mem_of_getElem? ht
        have hall : ([24, 35].all fun u => !Tryd.prog.wantsStandIn u) = true := by kernel_rfl
        exact (show Tryd.prog.wantsStandIn t = false by simpa using List.all_eq_true.1 hall t hm)⟩)
    (by kernel_rfl)
#print axioms exprNormal_card_holds
end Go.Proofs.YtlhkkngpppcfoaaDoor
