/-
  The card of RailLabels: whatever comes in, RailLabels answers true, and what came in reads as it did. No condition but the card's own: the listed variables hold what the program's text lays.
-/
import Derived.Test.YtalnmednhhimhaaGreatDoorRailLabels
import Derived.Test.YtalnmednhhimhaaGreatDoorLaid4
import Derived.Carry
set_option linter.all false
namespace Go.Proofs.YtalnmednhhimhaaGreatDoor
open Go Go.Sl Go.RowKit Go.Bonsai
open Go.ChangeShapes Go.WideShapes Go.ChangeAt
set_option linter.unusedVariables false

set_option maxRecDepth 100000 in
theorem railLabels_lifted (os : Os) (started : os.Started) (H : Type) (enc : TypeId × Value → H) :
    ReturnsInHanded {} Tryz.checked os 5 .any (fun w args => (Rows.railLabelsSpec.pre enc Tryz.prog Tryz.f5 [] false w args ∧ laidMetH Tryz.prog laid4 w) ∧ sizedMet enc Tryz.prog Tryz.f5 (OpenSpec.ofChange Rows.railLabelsSpec) false w args)
      (Rows.railLabelsSpec.post enc Tryz.prog Tryz.f5 false true false false) := by
  refine returnsInHanded_of_change_and (C := Tryz.checked) (X := fun w _ => laidMetH Tryz.prog laid4 w) (fun _ _ _ hh h => h.of_heap hh) own_ started (by kernel_rfl) Tryz.func5
    (ChangeSpec.witness_shaped (enc := enc) (C := Tryz.checked) (os := os) (X := fun w _ => laidMetH Tryz.prog laid4 w) false (World.doorLaid Tryz.prog 400 os) #[.agg #[.slice none 0 0, .int .i64 0], .agg #[.slice none 0 0]] 8 rfl (World.shaped_of_RefB (by kernel_rfl) (by kernel_rfl)) (by kernel_rfl) (by kernel_rfl) (by kernel_rfl) (door_met4 os _)) ?_
  intro W base args ds gs before hval0 hW _ hsz0 hL _
  have hsz := sized_of hsz0
  have hlt : ∀ x ∈ before, x.block < W.heap.size := fun x hx => by simpa using hW.lt x hx
  have hW' := hW
  obtain ⟨p, q, hA0, hV, rfl, hfz, hnd⟩ := hW
  have hA : DataW.TrodAll enc Tryz.prog W 0 (fun _ => true) true Tryz.f5.params.toList args.toList ds p := hA0
  rw [Tryz.params5] at hA hsz hval0
  obtain ⟨v1, v2, d1, d2, p1, p2, rfl, rfl, rfl, h1, h2⟩ := trodAll_two hA
  obtain ⟨rfl, rfl⟩ := trodVars_none hV
  have h1' := h1
  obtain ⟨_, h1⟩ := h1
  obtain ⟨x1, ht1, hw1⟩ := open_tree h1 (hsz 0 _ _ rfl rfl)
  have h2' := h2
  obtain ⟨a2, rfl, _⟩ := okWide_struct Tryz.underlying56 (hval0 1 _ _ rfl rfl)
  obtain ⟨_, h2⟩ := h2
  obtain ⟨x2, hr2, hlr2, hw2⟩ := open_grammar h2 (hsz 1 _ _ rfl rfl)
  simp only [List.append_nil] at hW' hlt
  obtain ⟨A1, c1, e1, hr1⟩ := ht1
  have e1 := agg_of_cells e1
  subst e1
  have hb1 : ∀ x ∈ p1, x.block < W.heap.size := fun x hx => hlt x (by simp [hx])
  have hb2 : ∀ x ∈ p2, x.block < W.heap.size := fun x hx => hlt x (by simp [hx])
  have hxTree : ∀ W' : World, Below W.heap.size W W' → ∀ (v d p), DataW.Trod enc Tryz.prog W 0 (fun _ => true) true 27 v d p → (∀ x ∈ p, x.block < W.heap.size) → DataW.Trod enc Tryz.prog W' 0 (fun b => decide (b < W.heap.size)) true 27 v d p :=
    fun W' hb v d p h hp => Below.trod laidOut_ (by kernel_rfl) (of_decide_eq_true (by kernel_rfl)) h hb hp
  have hxGrammar : ∀ W' : World, Below W.heap.size W W' → ∀ (v d p), DataW.Trod enc Tryz.prog W 0 (fun _ => true) true 56 v d p → (∀ x ∈ p, x.block < W.heap.size) → DataW.Trod enc Tryz.prog W' 0 (fun b => decide (b < W.heap.size)) true 56 v d p :=
    fun W' hb v d p h hp => Below.trod laidOut_ (by kernel_rfl) (of_decide_eq_true (by kernel_rfl)) h hb hp
  refine (railLabels_any _ _ x1 x2 W ⟨_, rfl, hr1⟩ hr2 hw1 hlr2 hw2 (tabs_of_laid hL).1 (tabs_of_laid hL).2).mono fun e W' ⟨he, hb⟩ => ?_
  subst he
  try simp only [List.append_assoc] at hW'
  exact ⟨_, rfl, _, _, _, [], p1 ++ p2, [], hW', trodAll_mk1 (shut_bool Tryz.underlying4 _), trodAll_mk2 (hxTree W' hb _ _ _ h1' hb1) (hxGrammar W' hb _ _ _ h2' hb2), rfl, hb.frame _, fun h => by cases h⟩

set_option maxRecDepth 100000 in
theorem railLabels_holds : Rows.RailLabelsSaid :=
  OpenClaim.holds_of_wide 5 Tryz.f5 rfl rfl rfl rfl rfl rfl rfl ⟨rfl, rfl, rfl, rfl, rfl⟩ rfl rfl rfl rfl rfl (by kernel_rfl) Tryz.func5 (by kernel_rfl)
    (of_decide_eq_true (by kernel_rfl)) (by unfold Func.isWrapper; first | (rw [if_pos (by decide +kernel)]; kernel_rfl) | (rw [if_neg (by decide +kernel)]; exact ⟨rfl, rfl⟩))
    (fun os started H enc _ => railLabels_lifted os started H enc)

set_option maxRecDepth 100000 in
theorem railLabels_card_holds : Rows.RailLabelsCardSaid :=
  Claim7.holds_tied_plain_at .later [] [.data, .data, .data, .data] true (true, "45c045d3a32eff86f8b9b4b3d1667c26bfbb749189642d56cfd74d8034276296") false
    railLabels_holds (fun _ h => by cases h) (by kernel_rfl) (fun _ h => by cases h) railLabels_row_tie rfl ⟨rfl, rfl⟩ (by kernel_rfl) rfl
    (fun f fn hf hfn => by
      obtain rfl : f = 5 := Option.some.inj ((show Tryz.prog.funcNamed "bonsai/bonsailaw31.RailLabels" = some 5 by kernel_rfl).symm.trans hf) |>.symm
      obtain rfl : fn = Tryz.f5 := (Option.some.inj (Tryz.func5.symm.trans hfn)).symm
      exact ⟨by kernel_rfl, fun j t ht => by
        rw [Tryz.params5] at ht
        have hm : t ∈ [27, 56] := by simpa using Array.mem_of_getElem? ht
        have hall : ([27, 56].all fun u => !Tryz.prog.wantsStandIn u) = true := by kernel_rfl
        exact (show Tryz.prog.wantsStandIn t = false by simpa using List.all_eq_true.1 hall t hm)⟩)
    (by kernel_rfl)
#print axioms railLabels_card_holds
end Go.Proofs.YtalnmednhhimhaaGreatDoor
