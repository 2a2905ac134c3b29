/-
  The card of ExprBrackets: whatever comes in, ExprBrackets answers true, and what came in reads as it did. No condition but the card's own: the listed variable holds what the program's text lays.
-/
import Derived.Test.YtlhkkngpppcfoaaDoorExprBrackets
import Derived.Test.YtlhkkngpppcfoaaDoorLaid
import Derived.Carry
set_option linter.all false
namespace Go.Proofs.YtlhkkngpppcfoaaDoor
open Go Go.Sl Go.RowKit Go.Bonsai
open Go.ChangeShapes Go.WideShapes Go.ChangeAt
set_option linter.unusedVariables false

set_option maxRecDepth 100000 in
theorem exprBrackets_lifted (os : Os) (started : os.Started) (H : Type) (enc : TypeId × Value → H) :
    ReturnsInHanded {} Tryd.checked os 9 .any (fun w args => (Rows.exprBracketsSpec.pre enc Tryd.prog Tryd.f9 [] false w args ∧ laidMetH Tryd.prog laid1 w) ∧ sizedMet enc Tryd.prog Tryd.f9 (OpenSpec.ofChange Rows.exprBracketsSpec) false w args)
      (Rows.exprBracketsSpec.post enc Tryd.prog Tryd.f9 false true false false) := by
  refine returnsInHanded_of_change_and (C := Tryd.checked) (X := fun w _ => laidMetH Tryd.prog laid1 w) (fun _ _ _ hh h => h.of_heap hh) own_ started (by kernel_rfl) Tryd.func9
    (ChangeSpec.witness_shaped (enc := enc) (C := Tryd.checked) (os := os) (X := fun w _ => laidMetH Tryd.prog laid1 w) false (World.doorLaid Tryd.prog 400 os) #[.agg #[.slice none 0 0, .int .i64 0], .agg #[.slice none 0 0, .int .i64 0], .agg #[.slice none 0 0, .int .i64 0]] 8 rfl (World.shaped_of_RefB (by kernel_rfl) (by kernel_rfl)) (by kernel_rfl) (by kernel_rfl) (by kernel_rfl) (door_met os _)) ?_
  intro W base args ds gs before hval0 hW _ hsz0 hL _
  have hsz := sized_of hsz0
  have hlt : ∀ x ∈ before, x.block < W.heap.size := fun x hx => by simpa using hW.lt x hx
  have hW' := hW
  obtain ⟨p, q, hA0, hV, rfl, hfz, hnd⟩ := hW
  have hA : DataW.TrodAll enc Tryd.prog W 0 (fun _ => true) true Tryd.f9.params.toList args.toList ds p := hA0
  rw [Tryd.params9] at hA hsz hval0
  obtain ⟨v1, v2, v3, d1, d2, d3, p1, p2, p3, rfl, rfl, rfl, h1, h2, h3⟩ := trodAll_three hA
  obtain ⟨rfl, rfl⟩ := trodVars_none hV
  have h1' := h1
  obtain ⟨_, h1⟩ := h1
  obtain ⟨x1, ht1, hw1⟩ := open_tree h1 (hsz 0 _ _ rfl rfl)
  have h2' := h2
  obtain ⟨_, h2⟩ := h2
  obtain ⟨x2, ht2, hw2⟩ := open_tree h2 (hsz 1 _ _ rfl rfl)
  have h3' := h3
  obtain ⟨_, h3⟩ := h3
  obtain ⟨x3, ht3, hw3⟩ := open_tree h3 (hsz 2 _ _ rfl rfl)
  simp only [List.append_nil] at hW' hlt
  obtain ⟨A1, c1, e1, hr1⟩ := ht1
  have e1 := agg_of_cells e1
  subst e1
  have hb1 : ∀ x ∈ p1, x.block < W.heap.size := fun x hx => hlt x (by simp [hx])
  obtain ⟨A2, c2, e2, hr2⟩ := ht2
  have e2 := agg_of_cells e2
  subst e2
  have hb2 : ∀ x ∈ p2, x.block < W.heap.size := fun x hx => hlt x (by simp [hx])
  obtain ⟨A3, c3, e3, hr3⟩ := ht3
  have e3 := agg_of_cells e3
  subst e3
  have hb3 : ∀ x ∈ p3, x.block < W.heap.size := fun x hx => hlt x (by simp [hx])
  have hxTree : ∀ W' : World, Below W.heap.size W W' → ∀ (v d p), DataW.Trod enc Tryd.prog W 0 (fun _ => true) true 24 v d p → (∀ x ∈ p, x.block < W.heap.size) → DataW.Trod enc Tryd.prog W' 0 (fun b => decide (b < W.heap.size)) true 24 v d p :=
    fun W' hb v d p h hp => Below.trod laidOut_ (by kernel_rfl) (of_decide_eq_true (by kernel_rfl)) h hb hp
  refine (exprBrackets_any _ _ _ x1 x2 x3 W ⟨_, rfl, hr1⟩ ⟨_, rfl, hr2⟩ ⟨_, rfl, hr3⟩ hw1 hw2 hw3 (tab_of_laid hL)).mono fun e W' ⟨he, hb⟩ => ?_
  subst he
  simp only [List.append_assoc] at hW'
  exact ⟨_, rfl, _, _, _, [], p1 ++ (p2 ++ p3), [], hW', trodAll_mk1 (shut_bool Tryd.underlying4 _), trodAll_mk3 (hxTree W' hb _ _ _ h1' hb1) (hxTree W' hb _ _ _ h2' hb2) (hxTree W' hb _ _ _ h3' hb3), rfl, hb.frame _, fun h => by cases h⟩

set_option maxRecDepth 100000 in
theorem exprBrackets_holds : Rows.ExprBracketsSaid :=
  OpenClaim.holds_of_wide 9 Tryd.f9 rfl rfl rfl rfl rfl rfl rfl ⟨rfl, rfl, rfl, rfl, rfl⟩ rfl rfl rfl rfl rfl (by kernel_rfl) Tryd.func9 (by kernel_rfl)
    (of_decide_eq_true (by kernel_rfl)) (by unfold Func.isWrapper; first | (rw [if_pos (by decide +kernel)]; kernel_rfl) | (rw [if_neg (by decide +kernel)]; exact ⟨rfl, rfl⟩))
    (fun os started H enc _ => exprBrackets_lifted os started H enc)

set_option maxRecDepth 100000 in
theorem exprBrackets_card_holds : Rows.ExprBracketsCardSaid :=
  Claim7.holds_tied_plain_at .later [] [.data] true (true, "44ae6e65f696759b12e6a4df0d7bdf0cb993e442394bb2c9b4a6f37a543be2fe") false
    exprBrackets_holds (fun _ h => by cases h) (by kernel_rfl) (fun _ h => by cases h) exprBrackets_row_tie rfl ⟨rfl, rfl⟩ (by kernel_rfl) rfl
    (fun f fn hf hfn => by
      obtain rfl : f = 9 := Option.some.inj ((show Tryd.prog.funcNamed "bonsai/bonsailaw05.ExprBrackets" = some 9 by kernel_rfl).symm.trans hf) |>.symm
      obtain rfl : fn = Tryd.f9 := (Option.some.inj (Tryd.func9.symm.trans hfn)).symm
      exact ⟨by kernel_rfl, fun j t ht => by
        rw [Tryd.params9] at ht
        have hm : t ∈ [24, 24, 24] := by simpa using Array.mem_of_getElem? ht
        have hall : ([24, 24, 24].all fun u => !Tryd.prog.wantsStandIn u) = true := by kernel_rfl
        exact (show Tryd.prog.wantsStandIn t = false by simpa using List.all_eq_true.1 hall t hm)⟩)
    (by kernel_rfl)
#print axioms exprBrackets_card_holds
end Go.Proofs.YtlhkkngpppcfoaaDoor
