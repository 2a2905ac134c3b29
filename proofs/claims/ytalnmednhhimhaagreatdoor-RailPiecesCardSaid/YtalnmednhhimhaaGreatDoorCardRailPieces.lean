/-
  The card of RailPieces: whatever comes in, RailPieces answers true, and what came in reads as it did. No condition but the card's own: the listed variables hold what the program's text lays.
-/
import Derived.Test.YtalnmednhhimhaaGreatDoorRailPieces
import Derived.Test.YtalnmednhhimhaaGreatDoorLaid4
import Derived.Carry
set_option linter.all false
namespace Go.Proofs.YtalnmednhhimhaaGreatDoor
open Go Go.Sl Go.RowKit Go.Bonsai
open Go.ChangeShapes Go.WideShapes Go.ChangeAt
set_option linter.unusedVariables false

set_option maxRecDepth 100000 in
theorem railPieces_lifted (os : Os) (started : os.Started) (H : Type) (enc : TypeId × Value → H) :
    ReturnsInHanded {} Tryz.checked os 3 .any (fun w args => (Rows.railPiecesSpec.pre enc Tryz.prog Tryz.f3 [] false w args ∧ laidMetH Tryz.prog laid4 w) ∧ sizedMet enc Tryz.prog Tryz.f3 (OpenSpec.ofChange Rows.railPiecesSpec) false w args)
      (Rows.railPiecesSpec.post enc Tryz.prog Tryz.f3 false true false false) := by
  refine returnsInHanded_of_change_and (C := Tryz.checked) (X := fun w _ => laidMetH Tryz.prog laid4 w) (fun _ _ _ hh h => h.of_heap hh) own_ started (by kernel_rfl) Tryz.func3
    (ChangeSpec.witness_shaped (enc := enc) (C := Tryz.checked) (os := os) (X := fun w _ => laidMetH Tryz.prog laid4 w) false (World.doorLaid Tryz.prog 400 os) #[.slice none 0 0] 8 rfl (World.shaped_of_RefB (by kernel_rfl) (by kernel_rfl)) (by kernel_rfl) (by kernel_rfl) (by kernel_rfl) (door_met4 os _)) ?_
  intro W base args ds gs before hval0 hW _ hsz0 hL _
  have hsz := sized_of hsz0
  have hlt : ∀ x ∈ before, x.block < W.heap.size := fun x hx => by simpa using hW.lt x hx
  have hW' := hW
  obtain ⟨p, q, hA0, hV, rfl, hfz, hnd⟩ := hW
  have hA : DataW.TrodAll enc Tryz.prog W 0 (fun _ => true) true Tryz.f3.params.toList args.toList ds p := hA0
  rw [Tryz.params3] at hA hsz hval0
  obtain ⟨v1, d1, rfl, rfl, h1⟩ := trodAll_one hA
  obtain ⟨rfl, rfl⟩ := trodVars_none hV
  have h1' := h1
  obtain ⟨a1, n1, k1, rfl⟩ := okWide_slice Tryz.underlying22 (hval0 0 _ _ rfl rfl)
  obtain ⟨_, h1⟩ := h1
  obtain ⟨x1, A1, c1, e1, hr1, hl1, hw1⟩ := open_trees h1 (hsz 0 _ _ rfl rfl)
  simp only [List.append_nil] at hW' hlt
  have hlr1 : x1.length ≤ 4398046511104 := by rw [reach_eq] at hl1; omega
  simp only [Value.cells, List.cons.injEq, and_true] at e1
  injection e1 with ea1 en1 ec1
  subst ea1 en1 ec1
  have hb1 : ∀ x ∈ p, x.block < W.heap.size := fun x hx => hlt x (by simp [hx])
  have hxTrees : ∀ W' : World, Below W.heap.size W W' → ∀ (v d p), DataW.Trod enc Tryz.prog W 0 (fun _ => true) true 22 v d p → (∀ x ∈ p, x.block < W.heap.size) → DataW.Trod enc Tryz.prog W' 0 (fun b => decide (b < W.heap.size)) true 22 v d p :=
    fun W' hb v d p h hp => Below.trod laidOut_ (by kernel_rfl) (of_decide_eq_true (by kernel_rfl)) h hb hp
  refine (railPieces_any _ x1 W hr1 hlr1 hw1 (tabs_of_laid hL).1 (tabs_of_laid hL).2).mono fun e W' ⟨he, hb⟩ => ?_
  subst he
  exact ⟨_, rfl, _, _, _, [], p, [], hW', trodAll_mk1 (shut_bool Tryz.underlying4 _), trodAll_mk1 (hxTrees W' hb _ _ _ h1' hb1), rfl, hb.frame _, fun h => by cases h⟩

set_option maxRecDepth 100000 in
theorem railPieces_holds : Rows.RailPiecesSaid :=
  OpenClaim.holds_of_wide 3 Tryz.f3 rfl rfl rfl rfl rfl rfl rfl ⟨rfl, rfl, rfl, rfl, rfl⟩ rfl rfl rfl rfl rfl (by kernel_rfl) Tryz.func3 (by kernel_rfl)
    (of_decide_eq_true (by kernel_rfl)) (by unfold Func.isWrapper; first | (rw [if_pos (by decide +kernel)]; kernel_rfl) | (rw [if_neg (by decide +kernel)]; exact ⟨rfl, rfl⟩))
    (fun os started H enc _ => railPieces_lifted os started H enc)

set_option maxRecDepth 100000 in
theorem railPieces_card_holds : Rows.RailPiecesCardSaid :=
  Claim7.holds_tied_plain_at .later [] [.data, .data, .data, .data] true (true, "45c045d3a32eff86f8b9b4b3d1667c26bfbb749189642d56cfd74d8034276296") false
    railPieces_holds (fun _ h => by cases h) (by kernel_rfl) (fun _ h => by cases h) railPieces_row_tie rfl ⟨rfl, rfl⟩ (by kernel_rfl) rfl
    (fun f fn hf hfn => by
      obtain rfl : f = 3 := Option.some.inj ((show Tryz.prog.funcNamed "bonsai/bonsailaw31.RailPieces" = some 3 by kernel_rfl).symm.trans hf) |>.symm
      obtain rfl : fn = Tryz.f3 := (Option.some.inj (Tryz.func3.symm.trans hfn)).symm
      exact ⟨by kernel_rfl, fun j t ht => by
        rw [Tryz.params3] at ht
        have hm : t ∈ [22] := by simpa using Array.mem_of_getElem? ht
        have hall : ([22].all fun u => !Tryz.prog.wantsStandIn u) = true := by kernel_rfl
        exact (show Tryz.prog.wantsStandIn t = false by simpa using List.all_eq_true.1 hall t hm)⟩)
    (by kernel_rfl)
#print axioms railPieces_card_holds
end Go.Proofs.YtalnmednhhimhaaGreatDoor
