/-
  The card of ExprPuts: whatever comes in, ExprPuts answers true, and what came in reads as it did. No condition but the card's own: the listed variable holds what the program's text lays.
-/
import Derived.Test.YtlhkkngpppcfoaaDoorExprPuts
import Derived.Test.YtlhkkngpppcfoaaDoorLaid
import Derived.Carry
import Derived.ChangeMaps5
set_option linter.all false
namespace Go.Proofs.YtlhkkngpppcfoaaDoor
open Go Go.Sl Go.RowKit Go.Bonsai
open Go.ChangeShapes Go.WideShapes Go.ChangeAt
set_option linter.unusedVariables false

set_option maxRecDepth 100000 in
theorem exprPuts_lifted (os : Os) (started : os.Started) (H : Type) (enc : TypeId × Value → H) :
    ReturnsInHanded {} Tryd.checked os 11 .any (fun w args => (Rows.exprPutsSpec.pre enc Tryd.prog Tryd.f11 [] false w args ∧ laidMetH Tryd.prog laid1 w) ∧ sizedMet enc Tryd.prog Tryd.f11 (OpenSpec.ofChange Rows.exprPutsSpec) false w args)
      (Rows.exprPutsSpec.post enc Tryd.prog Tryd.f11 false true false false) := by
  refine returnsInHanded_of_change_and (C := Tryd.checked) (X := fun w _ => laidMetH Tryd.prog laid1 w) (fun _ _ _ hh h => h.of_heap hh) own_ started (by kernel_rfl) Tryd.func11
    (ChangeSpec.witness_shaped (enc := enc) (C := Tryd.checked) (os := os) (X := fun w _ => laidMetH Tryd.prog laid1 w) false (World.doorLaid Tryd.prog 400 os) #[.slice none 0 0, .int .i64 0, .int .i64 0, .string ⟨#[]⟩] 8 rfl (World.shaped_of_RefB (by kernel_rfl) (by kernel_rfl)) (by kernel_rfl) (by kernel_rfl) (by kernel_rfl) (door_met os _)) ?_
  intro W base args ds gs before hval0 hW _ hsz0 hL _
  have hsz := sized_of hsz0
  have hlt : ∀ x ∈ before, x.block < W.heap.size := fun x hx => by simpa using hW.lt x hx
  have hW' := hW
  obtain ⟨p, q, hA0, hV, rfl, hfz, hnd⟩ := hW
  have hA : DataW.TrodAll enc Tryd.prog W 0 (fun _ => true) true Tryd.f11.params.toList args.toList ds p := hA0
  rw [Tryd.params11] at hA hsz hval0
  obtain ⟨v1, v2, v3, v4, d1, d2, d3, d4, p1, p2, p3, p4, rfl, rfl, rfl, h1, h2, h3, h4⟩ := trodAll_four hA
  obtain ⟨rfl, rfl⟩ := trodVars_none hV
  have h1' := h1
  obtain ⟨a1, n1, k1, rfl⟩ := okWide_slice Tryd.underlying35 (hval0 0 _ _ rfl rfl)
  obtain ⟨_, h1⟩ := h1
  obtain ⟨x1, A1, c1, e1, hr1, hl1, hw1⟩ := open_trees h1 (hsz 0 _ _ rfl rfl)
  have h2' := h2
  obtain ⟨x2, rfl, _, _, hw2⟩ := open_int Tryd.underlying3 (hval0 1 _ _ rfl rfl) h2
  have h3' := h3
  obtain ⟨x3, rfl, _, _, hw3⟩ := open_int Tryd.underlying3 (hval0 2 _ _ rfl rfl) h3
  have h4' := h4
  obtain ⟨x4, rfl, _, _, hw4⟩ := Go.ChangeMaps.open_string Tryd.underlying9 (hval0 3 _ _ rfl rfl) h4
  simp only [List.append_nil] at hW' hlt
  have hlr1 : x1.length ≤ 4398046511104 := by rw [reach_eq] at hl1; omega
  simp only [Value.cells, List.cons.injEq, and_true] at e1
  injection e1 with ea1 en1 ec1
  subst ea1 en1 ec1
  have hb1 : ∀ x ∈ p1, x.block < W.heap.size := fun x hx => hlt x (by simp [hx])
  have hb2 : ∀ x ∈ p2, x.block < W.heap.size := fun x hx => hlt x (by simp [hx])
  have hb3 : ∀ x ∈ p3, x.block < W.heap.size := fun x hx => hlt x (by simp [hx])
  have hb4 : ∀ x ∈ p4, x.block < W.heap.size := fun x hx => hlt x (by simp [hx])
  have hxTrees : ∀ W' : World, Below W.heap.size W W' → ∀ (v d p), DataW.Trod enc Tryd.prog W 0 (fun _ => true) true 35 v d p → (∀ x ∈ p, x.block < W.heap.size) → DataW.Trod enc Tryd.prog W' 0 (fun b => decide (b < W.heap.size)) true 35 v d p :=
    fun W' hb v d p h hp => Below.trod laidOut_ (by kernel_rfl) (of_decide_eq_true (by kernel_rfl)) h hb hp
  have hxint : ∀ W' : World, Below W.heap.size W W' → ∀ (v d p), DataW.Trod enc Tryd.prog W 0 (fun _ => true) true 3 v d p → (∀ x ∈ p, x.block < W.heap.size) → DataW.Trod enc Tryd.prog W' 0 (fun b => decide (b < W.heap.size)) true 3 v d p :=
    fun W' hb v d p h hp => Below.trod laidOut_ (by kernel_rfl) (of_decide_eq_true (by kernel_rfl)) h hb hp
  have hxstring : ∀ W' : World, Below W.heap.size W W' → ∀ (v d p), DataW.Trod enc Tryd.prog W 0 (fun _ => true) true 9 v d p → (∀ x ∈ p, x.block < W.heap.size) → DataW.Trod enc Tryd.prog W' 0 (fun b => decide (b < W.heap.size)) true 9 v d p :=
    fun W' hb v d p h hp => Below.trod laidOut_ (by kernel_rfl) (of_decide_eq_true (by kernel_rfl)) h hb hp
  refine (exprPuts_any _ x1 x2 x3 x4 W hr1 hlr1 hw1 hw2 hw3 hw4 (tab_of_laid hL)).mono fun e W' ⟨he, hb⟩ => ?_
  subst he
  simp only [List.append_assoc] at hW'
  exact ⟨_, rfl, _, _, _, [], p1 ++ (p2 ++ (p3 ++ p4)), [], hW', trodAll_mk1 (shut_bool Tryd.underlying4 _), trodAll_mk4 (hxTrees W' hb _ _ _ h1' hb1) (hxint W' hb _ _ _ h2' hb2) (hxint W' hb _ _ _ h3' hb3) (hxstring W' hb _ _ _ h4' hb4), rfl, hb.frame _, fun h => by cases h⟩

set_option maxRecDepth 100000 in
theorem exprPuts_holds : Rows.ExprPutsSaid :=
  OpenClaim.holds_of_wide 11 Tryd.f11 rfl rfl rfl rfl rfl rfl rfl ⟨rfl, rfl, rfl, rfl, rfl⟩ rfl rfl rfl rfl rfl (by kernel_rfl) Tryd.func11 (by kernel_rfl)
    (of_decide_eq_true (by kernel_rfl)) (by unfold Func.isWrapper; first | (rw [if_pos (by decide +kernel)]; kernel_rfl) | (rw [if_neg (by decide +kernel)]; exact ⟨rfl, rfl⟩))
    (fun os started H enc _ => exprPuts_lifted os started H enc)

set_option maxRecDepth 100000 in
theorem exprPuts_card_holds : Rows.ExprPutsCardSaid :=
  Claim7.holds_tied_plain_at .later [] [.data] true (true, "44ae6e65f696759b12e6a4df0d7bdf0cb993e442394bb2c9b4a6f37a543be2fe") false
    exprPuts_holds (fun _ h => by cases h) (by kernel_rfl) (fun _ h => by cases h) exprPuts_row_tie rfl ⟨rfl, rfl⟩ (by kernel_rfl) rfl
    (fun f fn hf hfn => by
      obtain rfl : f = 11 := Option.some.inj ((show Tryd.prog.funcNamed "bonsai/bonsailaw05.ExprPuts" = some 11 by kernel_rfl).symm.trans hf) |>.symm
      obtain rfl : fn = Tryd.f11 := (Option.some.inj (Tryd.func11.symm.trans hfn)).symm
      exact ⟨by kernel_rfl, fun j t ht => by
        rw [Tryd.params11] at ht
        have hm : t ∈ [35, 3, 3, 9] := by simpa using Array.mem_of_getElem? ht
        have hall : ([35, 3, 3, 9].all fun u => !Tryd.prog.wantsStandIn u) = true := by kernel_rfl
        exact (show Tryd.prog.wantsStandIn t = false by simpa using List.all_eq_true.1 hall t hm)⟩)
    (by kernel_rfl)
#print axioms exprPuts_card_holds
end Go.Proofs.YtlhkkngpppcfoaaDoor
