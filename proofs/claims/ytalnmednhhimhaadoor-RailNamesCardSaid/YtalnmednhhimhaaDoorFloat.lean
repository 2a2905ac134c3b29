/-
  Statements whose order is drawn, where one new variable is laid at any time between the other acts.
-/
import Derived.Test.YtalnmednhhimhaaDoorRange
set_option linter.all false
namespace Go.Sl
open Go.RowKit
set_option linter.unusedVariables false

section
variable {P : Program} {C : World → Prop} {ops : Array Oper} {ks : Nat → Kd} {Q : Exit → Act → World → Prop}

/-- the rows in which x may come: ahead of each act, and ahead of the first one that waits for it -/
def flo (x : Nat) (wt kp : Nat → Bool) : List Nat → List (List Nat)
  | [] => [[x]]
  | i :: r => bif wt i then [x :: i :: r] else (bif kp i then [x :: i :: r] else []) ++ (flo x wt kp r).map (i :: ·)

theorem flo_x (x : Nat) (wt kp : Nat → Bool) : ∀ rem : List Nat, ∃ pre post, rem = pre ++ post ∧ pre ++ x :: post ∈ flo x wt kp rem ∧ ∀ k ∈ pre, kp k = false ∧ wt k = false
  | [] => ⟨[], [], rfl, by simp [flo], by simp⟩
  | i :: r => by
    cases hw : wt i with
    | true => exact ⟨[], i :: r, rfl, by simp [flo, hw], by simp⟩
    | false =>
      cases hk : kp i with
      | true => exact ⟨[], i :: r, rfl, by simp [flo, hw, hk], by simp⟩
      | false =>
        obtain ⟨pre, post, h1, h2, h3⟩ := flo_x x wt kp r
        refine ⟨i :: pre, post, by rw [h1]; rfl, ?_, ?_⟩
        · simp only [flo, hw, hk, cond_false, List.nil_append, List.cons_append]
          exact List.mem_map.2 ⟨_, h2, rfl⟩
        · intro k hkm
          rcases List.mem_cons.1 hkm with rfl | hkm
          · exact ⟨hk, hw⟩
          · exact h3 k hkm
theorem flo_pre (x : Nat) (wt kp : Nat → Bool) : ∀ (pre r : List Nat), (∀ k ∈ pre, kp k = false ∧ wt k = false) → flo x wt kp (pre ++ r) = (flo x wt kp r).map (pre ++ ·)
  | [], r, _ => by simp
  | k :: pre, r, h => by
    obtain ⟨h1, h2⟩ := h k (by simp)
    rw [List.cons_append, flo, h1, h2, flo_pre x wt kp pre r (fun y hy => h y (by simp [hy]))]
    simp [Function.comp_def]
theorem flo_still (x : Nat) (wt kp : Nat → Bool) {i : Nat} (hk : kp i = false) (hw : wt i = false) : ∀ (pre post l : List Nat), l ∈ flo x wt kp (pre ++ post) → ∃ a b, l = a ++ b ∧ a ++ i :: b ∈ flo x wt kp (pre ++ i :: post) ∧ ∀ k ∈ a, k ∈ pre ∨ k = x
  | [], post, l, h => ⟨[], l, rfl, by simp only [List.nil_append, flo, hk, hw, cond_false]; exact List.mem_map.2 ⟨l, h, rfl⟩, by simp⟩
  | k :: pre, post, l, h => by
    have hx : x :: k :: (pre ++ post) = (x :: k :: pre) ++ post := by simp
    have hall : ∀ y ∈ x :: k :: pre, y ∈ k :: pre ∨ y = x := by
      intro y hy
      rcases List.mem_cons.1 hy with rfl | hy
      · exact .inr rfl
      · exact .inl hy
    rw [List.cons_append, flo] at h
    cases hwk : wt k with
    | true =>
      rw [hwk, cond_true, List.mem_singleton] at h
      subst h
      exact ⟨x :: k :: pre, post, hx, by simp [flo, hwk], hall⟩
    | false =>
      rw [hwk, cond_false, List.mem_append] at h
      rcases h with h | h
      · cases hkk : kp k with
        | false => rw [hkk] at h; simp at h
        | true =>
          rw [hkk, cond_true, List.mem_singleton] at h
          subst h
          exact ⟨x :: k :: pre, post, hx, by simp [flo, hwk, hkk], hall⟩
      · obtain ⟨l', hl', rfl⟩ := List.mem_map.1 h
        obtain ⟨a, b, e, h1, h2⟩ := flo_still x wt kp hk hw pre post l' hl'
        refine ⟨k :: a, b, by rw [e]; rfl, ?_, ?_⟩
        · rw [List.cons_append, flo, hwk, cond_false]
          exact List.mem_append.2 (.inr (List.mem_map.2 ⟨_, h1, rfl⟩))
        · intro y hy
          rcases List.mem_cons.1 hy with rfl | hy
          · exact .inl (by simp)
          · rcases h2 y hy with h | h
            · exact .inl (by simp [h])
            · exact .inr h
theorem flo_ne (x : Nat) (wt kp : Nat → Bool) (rem : List Nat) : ∃ l, l ∈ flo x wt kp rem := let ⟨_, _, _, h, _⟩ := flo_x x wt kp rem; ⟨_, h⟩

/-- an act that calls nothing -/
def mkB (o : Oper) : Bool :=
  match o.op with
  | .alloc .. | .box .. | .buildSlice .. | .makeSlice .. => true
  | _ => false
theorem val_of {A : Sem Value} {w w' : World} {nx : Next} (hr : (do pure (Next.value (← A)) : Sem Next).run P w = .ok nx w') : ∃ v, nx = .value v := by
  rw [Sem.run_bind] at hr
  cases h : A.run P w with
  | halt s w' => rw [h] at hr; simp [Result.andThen] at hr
  | ok v w'' => rw [h] at hr; simp at hr; exact ⟨v, hr.1.symm⟩
theorem mk_value {o : Oper} (h : mkB o = true) {ρ : Operand → Value} {w w' : World} {nx : Next} (hr : (execOp ρ o).run P w = .ok nx w') : ∃ v, nx = .value v := by
  unfold mkB at h
  unfold execOp at hr
  split at h
  all_goals (try cases h)
  all_goals (rename_i ho; simp only [ho] at hr; exact val_of hr)

theorem loud_all {ι : Type} {F : ι → Prop} {K : ι → Value → World → Prop} {o : Oper} {a : Act} {w : World} (hm : mkB o = true) (hne : ∃ l, F l) (h : ∀ l, F l → Loud P o a w (K l)) : Loud P o a w (fun v w' => ∀ l, F l → K l v w') := by
  obtain ⟨l0, hl0⟩ := hne
  have h0 := h l0 hl0
  unfold Loud at h0 ⊢
  cases hr : (execOp a.eval o).run P w with
  | halt s w' => rw [hr] at h0; exact h0.elim
  | ok nx w' =>
    obtain ⟨v, rfl⟩ := mk_value hm hr
    intro l hl
    have := h l hl
    unfold Loud at this
    rw [hr] at this
    exact this
theorem opI_all {ι : Type} {F : ι → Prop} {K : ι → Act → World → Prop} {i : Nat} {a : Act} {w : World} (hm : ∀ o, ops[i]? = some o → (ks i).still = true ∨ mkB o = true) (hne : ∃ l, F l) (h : ∀ l, F l → opI P C ops ks i (K l) a w) :
    opI P C ops ks i (fun a w => ∀ l, F l → K l a w) a w := by
  unfold opI at h ⊢
  cases ho : ops[i]? with
  | none => simp only [ho] at h; exact h
  | some o =>
    simp only [ho] at h
    show opK P C ops (ks i) o _ a w
    by_cases hw : Region.wanted o (yielded ops a.tmps) = true
    · obtain ⟨l0, hl0⟩ := hne
      have h0 := h l0 hl0
      rw [opK_t hw] at h0 ⊢
      refine ⟨h0.1, ?_⟩
      rcases hm o ho with hs | hmk
      · have h1 := h0.2
        rw [opR_s hs] at h1 ⊢
        obtain ⟨d, v, r, _⟩ := h1
        refine ⟨d, v, r, fun l hl => ?_⟩
        have h2 := h l hl
        rw [opK_t hw, opR_s hs] at h2
        obtain ⟨_, _, v', r', hk⟩ := h2
        have e := (r w d).symm.trans (r' w d)
        injection e with e1 _
        injection e1 with e1
        rw [e1]; exact hk
      · cases hs : (ks i).still with
        | true =>
          have h1 := h0.2
          rw [opR_s hs] at h1 ⊢
          obtain ⟨d, v, r, _⟩ := h1
          refine ⟨d, v, r, fun l hl => ?_⟩
          have h2 := h l hl
          rw [opK_t hw, opR_s hs] at h2
          obtain ⟨_, _, v', r', hk⟩ := h2
          have e := (r w d).symm.trans (r' w d)
          injection e with e1 _
          injection e1 with e1
          rw [e1]; exact hk
        | false =>
          rw [opR_l hs]
          have := loud_all (K := fun l v w' => Kd.kc C (ks i) w' ∧ K l (a.put o.dst v) w') hmk ⟨l0, hl0⟩ (fun l hl => by
            have h2 := h l hl
            rw [opK_t hw, opR_l hs] at h2
            exact h2.2)
          exact this.mono fun v w' hh => ⟨(hh l0 hl0).1, fun l hl => (hh l hl).2⟩
    · rw [opK_f hw]
      intro l hl
      have h2 := h l hl
      rw [opK_f hw] at h2
      exact h2

/-- who waits for x; who may not be turned about with it -/
def wtB (ops : Array Oper) (x i : Nat) : Bool := waitsB ops 6 i x
def kpB (ops : Array Oper) (ks : Nat → Kd) (x i : Nat) : Bool := !(pairB ops ks i x && pairB ops ks x i)
/-- the look at a region with x -/
def floOk (ops : Array Oper) (ks : Nat → Kd) (x : Nat) : Bool :=
  Region.noSelect ops && (Nat.blt x ops.size && ((match ops[x]? with | some o => o.after.isEmpty | none => false) && (List.range ops.size).all fun i =>
    (match ops[i]? with | some o => (o.after.all fun e => !Region.binds .any e || Nat.blt e.on i) && ((ks i).still || mkB o || wtB ops x i) | none => true) &&
    ((Nat.beq i x || wtB ops x i || !kpB ops ks x i || (List.range i).all fun k => Nat.beq k x || !wtB ops x k) &&
    ((List.range i).all fun k => Nat.beq i x || Nat.beq k x || (pairB ops ks k i && (!kpB ops ks x i || !kpB ops ks x k || wtB ops x i)) || waitsB ops 6 i k))))

structure FOk (ops : Array Oper) (ks : Nat → Kd) (x : Nat) : Prop where
  sel : Region.noSelect ops = true
  lt : x < ops.size
  none_ : ∀ o, ops[x]? = some o → o.after = #[]
  back : ∀ i o, ops[i]? = some o → ∀ e ∈ o.after, Region.binds .any e = true → e.on < i
  act : ∀ i o, ops[i]? = some o → wtB ops x i = false → (ks i).still = true ∨ mkB o = true
  ahead : ∀ i, i < ops.size → i ≠ x → wtB ops x i = false → kpB ops ks x i = true → ∀ k, k < i → k ≠ x → wtB ops x k = false
  pair : ∀ i, i < ops.size → i ≠ x → ∀ k, k < i → k ≠ x → (pairB ops ks k i = true ∧ (kpB ops ks x i = true → kpB ops ks x k = true → wtB ops x i = true)) ∨ waitsB ops 6 i k = true
theorem FOk.of {x : Nat} (h : floOk ops ks x = true) : FOk ops ks x := by
  simp only [floOk, Bool.and_eq_true, List.all_eq_true, List.mem_range] at h
  obtain ⟨h1, h2, h3, h4⟩ := h
  refine ⟨h1, blt_lt h2, fun o ho => ?_, fun i o ho e he hb => ?_, fun i o ho hw => ?_, fun i hi hx hw hk k hki hkx => ?_, fun i hi hx k hki hkx => ?_⟩
  · rw [ho] at h3
    simpa using h3
  · have := (h4 i (Array.getElem?_eq_some_iff.1 ho).1).1
    rw [ho] at this
    simp only [Bool.and_eq_true] at this
    have h5 := (Array.all_eq_true_iff_forall_mem.1 this.1) e he
    simp only [hb, Bool.not_true, Bool.false_or] at h5
    exact blt_lt h5
  · have := (h4 i (Array.getElem?_eq_some_iff.1 ho).1).1
    rw [ho] at this
    simp only [Bool.and_eq_true, Bool.or_eq_true, hw] at this
    rcases this.2 with (h | h) | h
    · exact .inl h
    · exact .inr h
    · cases h
  · have := (h4 i hi).2.1
    simp only [Bool.or_eq_true, hw, hk, List.all_eq_true, List.mem_range, Bool.not_true] at this
    rcases this with ((h | h) | h) | h
    · exact absurd (Nat.eq_of_beq_eq_true h) hx
    · cases h
    · cases h
    · have := h k hki
      simp only [Bool.or_eq_true, Bool.not_eq_true'] at this
      rcases this with h | h
      · exact absurd (Nat.eq_of_beq_eq_true h) hkx
      · exact h
  · have := (h4 i hi).2.2 k hki
    simp only [Bool.or_eq_true, Bool.and_eq_true, Bool.not_eq_true'] at this
    rcases this with ((h | h) | h) | h
    · exact absurd (Nat.eq_of_beq_eq_true h) hx
    · exact absurd (Nat.eq_of_beq_eq_true h) hkx
    · refine .inl ⟨h.1, fun ha hb => ?_⟩
      rcases h.2 with (h | h) | h
      · rw [ha] at h; cases h
      · rw [hb] at h; cases h
      · exact h
    · exact .inr h

structure FInv (ops : Array Oper) (x : Nat) (rem : List Nat) (listed : Array Bool) : Prop where
  size : listed.size = ops.size
  mem : ∀ i, i ∈ rem ↔ (i < ops.size ∧ i ≠ x ∧ listed.getD i true = false)
  sorted : rem.Pairwise (· < ·)
  closed : ∀ j o, ops[j]? = some o → listed.getD j false = true → ∀ e ∈ o.after, Region.binds .any e = true → listed.getD e.on false = true
theorem set_inv {x i : Nat} {pre post : List Nat} {listed : Array Bool} {oi : Oper} (inv : FInv ops x (pre ++ i :: post) listed) (hoi : ops[i]? = some oi) (hall : ∀ e ∈ oi.after, Region.binds .any e = true → listed.getD e.on false = true) :
    FInv ops x (pre ++ post) (listed.setIfInBounds i true) := by
  have hs := inv.sorted
  rw [List.pairwise_append, List.pairwise_cons] at hs
  obtain ⟨hs1, ⟨hs2, hs2'⟩, hs3⟩ := hs
  have hilt : i < ops.size := (Array.getElem?_eq_some_iff.1 hoi).1
  have hix := ((inv.mem i).1 (by simp)).2.1
  refine ⟨by simp [inv.size], fun j => ?_, ?_, fun j o hj hlj e he hb => ?_⟩
  · have hj := inv.mem j
    by_cases hji : j = i
    · subst hji
      have hij : j ∉ pre ++ post := by
        intro hmm
        rcases List.mem_append.1 hmm with hmm | hmm
        · have := hs3 j hmm j (by simp); omega
        · have := hs2 j hmm; omega
      constructor
      · intro hm; exact absurd hm hij
      · rintro ⟨_, _, hm⟩
        have : j < listed.size := by rw [inv.size]; exact hilt
        simp [this] at hm
    · have e1 : (listed.setIfInBounds i true).getD j true = listed.getD j true := getD_set_ne true (fun e => hji e.symm)
      rw [e1, ← hj]
      simp [hji]
  · rw [List.pairwise_append]
    exact ⟨hs1, hs2', fun x hx y hy => hs3 x hx y (by simp [hy])⟩
  · by_cases hji : i = j
    · subst hji
      have : o = oi := Option.some.inj (hj.symm.trans hoi)
      subst this
      exact getD_set_true (hall e he hb)
    · rw [getD_set_ne false hji] at hlj
      exact getD_set_true (inv.closed j o hj hlj e he hb)

/-- x has been laid: the text's order of the others -/
theorem any_of_lexX {x : Nat} (hok : FOk ops ks x) : ∀ (fuel : Nat) (rem : List Nat) (listed : Array Bool) (a : Act) (w : World), listed.getD x false = true → rem.length = fuel → FInv ops x rem listed → wpLex P C ops ks Q rem a w → wpAny P .any ops Q fuel listed a w := by
  intro fuel
  induction fuel with
  | zero =>
    intro rem listed a w hx hl inv h
    obtain rfl := List.eq_nil_of_length_eq_zero hl
    refine ⟨?_, h⟩
    rw [List.eq_nil_iff_forall_not_mem]
    intro j hj
    obtain ⟨h1, o, ho, _⟩ := mem_ready.1 hj
    have hjl := (Array.getElem?_eq_some_iff.1 ho).1
    have hjx : j ≠ x := by
      rintro rfl
      rw [getD_tf (by rw [inv.size]; exact hjl), hx] at h1
      cases h1
    have := (inv.mem j).2 ⟨hjl, hjx, h1⟩
    simp at this
  | succ fuel ih =>
    intro rem listed a w hx hl inv h
    refine ⟨fun hnil => ?_, fun i hi => ?_⟩
    · cases rem with
      | nil => simp at hl
      | cons i rest =>
        have hi := (inv.mem i).1 (by simp)
        have : i ∈ Region.ready .any ops listed := by
          refine mem_ready.2 ⟨hi.2.2, _, Array.getElem?_eq_getElem hi.1, fun e he hb => ?_⟩
          have hlt := hok.back i _ (Array.getElem?_eq_getElem hi.1) e he hb
          cases hle : listed.getD e.on false with
          | true => rfl
          | false =>
            have hex : e.on ≠ x := by rintro hh; rw [hh, hx] at hle; cases hle
            have hm : e.on ∈ i :: rest := (inv.mem e.on).2 ⟨by omega, hex, by rw [getD_tf (by rw [inv.size]; omega)]; exact hle⟩
            have hs := inv.sorted
            rw [List.pairwise_cons] at hs
            rcases List.mem_cons.1 hm with hm | hm
            · omega
            · have := hs.1 _ hm; omega
        rw [hnil] at this
        cases this
    · obtain ⟨hun, oi, hoi, hall⟩ := mem_ready.1 hi
      have hilt : i < ops.size := (Array.getElem?_eq_some_iff.1 hoi).1
      have hix : i ≠ x := by
        rintro rfl
        rw [getD_tf (by rw [inv.size]; exact hilt), hx] at hun
        cases hun
      have hmem := (inv.mem i).2 ⟨hilt, hix, hun⟩
      obtain ⟨pre, post, rfl⟩ := List.append_of_mem hmem
      have hs := inv.sorted
      rw [List.pairwise_append] at hs
      have hpre : ∀ k ∈ pre, pairB ops ks k i = true := by
        intro k hk
        have hki : k < i := hs.2.2 k hk i (by simp)
        have hku := (inv.mem k).1 (by simp [hk])
        rcases hok.pair i hilt hix k hki hku.2.1 with h1 | h1
        · exact h1.1
        · have h2 := waits_listed inv.closed 6 i k oi hoi hall h1
          rw [← getD_tf (by rw [inv.size]; omega), hku.2.2] at h2
          cases h2
      have hf := front hok.sel pre hpre a w h
      refine wpOp_mono (fun a' w' hh => ?_) (wpOp_of_opI (Q := Q) hf)
      exact ih (pre ++ post) _ a' w' (getD_set_true hx) (by simp at hl ⊢; omega) (set_inv inv hoi hall) hh

theorem any_of_flo {x : Nat} (hok : FOk ops ks x) : ∀ (fuel : Nat) (rem : List Nat) (listed : Array Bool) (a : Act) (w : World), rem.length + 1 = fuel → listed.getD x false = false → FInv ops x rem listed →
    (∀ l, l ∈ flo x (wtB ops x) (kpB ops ks x) rem → wpLex P C ops ks Q l a w) → wpAny P .any ops Q fuel listed a w := by
  intro fuel
  induction fuel with
  | zero => intro rem listed a w hl; omega
  | succ fuel ih =>
    intro rem listed a w hl hx inv h
    have hxs : x < listed.size := by rw [inv.size]; exact hok.lt
    refine ⟨fun hnil => ?_, fun i hi => ?_⟩
    · have : x ∈ Region.ready .any ops listed := by
        refine mem_ready.2 ⟨by rw [getD_tf hxs]; exact hx, _, Array.getElem?_eq_getElem hok.lt, fun e he hb => ?_⟩
        rw [hok.none_ _ (Array.getElem?_eq_getElem hok.lt)] at he
        simp at he
      rw [hnil] at this
      cases this
    · obtain ⟨hun, oi, hoi, hall⟩ := mem_ready.1 hi
      have hilt : i < ops.size := (Array.getElem?_eq_some_iff.1 hoi).1
      by_cases hix : i = x
      · subst hix
        obtain ⟨pre, post, rfl, hm, hk⟩ := flo_x i (wtB ops i) (kpB ops ks i) rem
        have hf := front hok.sel pre (fun k hkm => by
          have := (hk k hkm).1
          simp only [kpB, Bool.not_eq_false', Bool.and_eq_true] at this
          exact this.1) a w (h _ hm)
        refine wpOp_mono (fun a' w' hh => ?_) (wpOp_of_opI (Q := Q) hf)
        refine any_of_lexX hok fuel (pre ++ post) _ a' w' ?_ (by omega) ⟨by simp [inv.size], fun j => ?_, inv.sorted, fun j o hj hlj e he hb => ?_⟩ hh
        · simp [hxs]
        · rw [inv.mem j]
          constructor
          · rintro ⟨h1, h2, h3⟩
            exact ⟨h1, h2, by rw [getD_set_ne true (fun e => h2 e.symm)]; exact h3⟩
          · rintro ⟨h1, h2, h3⟩
            exact ⟨h1, h2, by rw [getD_set_ne true (fun e => h2 e.symm)] at h3; exact h3⟩
        · by_cases hji : i = j
          · subst hji
            have : o = oi := Option.some.inj (hj.symm.trans hoi)
            subst this
            exact getD_set_true (hall e he hb)
          · rw [getD_set_ne false hji] at hlj
            exact getD_set_true (inv.closed j o hj hlj e he hb)
      · have hmem := (inv.mem i).2 ⟨hilt, hix, hun⟩
        obtain ⟨pre, post, rfl⟩ := List.append_of_mem hmem
        have hs := inv.sorted
        rw [List.pairwise_append] at hs
        have hwi : wtB ops x i = false := by
          cases hw : wtB ops x i with
          | false => rfl
          | true =>
            have := waits_listed inv.closed 6 i x oi hoi hall hw
            rw [hx] at this
            cases this
        have hpp : ∀ k ∈ pre, pairB ops ks k i = true ∧ (kpB ops ks x i = true → kpB ops ks x k = true → wtB ops x i = true) := by
          intro k hk
          have hki : k < i := hs.2.2 k hk i (by simp)
          have hku := (inv.mem k).1 (by simp [hk])
          rcases hok.pair i hilt hix k hki hku.2.1 with h1 | h1
          · exact h1
          · have h2 := waits_listed inv.closed 6 i k oi hoi hall h1
            rw [← getD_tf (by rw [inv.size]; omega), hku.2.2] at h2
            cases h2
        have hpre : ∀ k ∈ pre, pairB ops ks k i = true := fun k hk => (hpp k hk).1
        have key : ∀ l, l ∈ flo x (wtB ops x) (kpB ops ks x) (pre ++ post) → opI P C ops ks i (wpLex P C ops ks Q l) a w := by
          intro l hl
          cases hki : kpB ops ks x i with
          | false =>
            obtain ⟨a1, b1, rfl, hm, hk⟩ := flo_still x _ _ hki hwi pre post l hl
            refine front hok.sel a1 (fun k hkm => ?_) a w (h _ hm)
            rcases hk k hkm with hk | rfl
            · exact hpre k hk
            · simp only [kpB, Bool.not_eq_false', Bool.and_eq_true] at hki
              exact hki.2
          | true =>
            have hq : ∀ k ∈ pre, kpB ops ks x k = false ∧ wtB ops x k = false := by
              intro k hk
              have hklt : k < i := hs.2.2 k hk i (by simp)
              have hku := (inv.mem k).1 (by simp [hk])
              refine ⟨?_, hok.ahead i hilt hix hwi hki k hklt hku.2.1⟩
              cases hkk : kpB ops ks x k with
              | false => rfl
              | true => have := (hpp k hk).2 hki hkk; rw [hwi] at this; cases this
            rw [flo_pre x _ _ pre post hq] at hl
            obtain ⟨m, hm, rfl⟩ := List.mem_map.1 hl
            refine front hok.sel pre hpre a w (h _ ?_)
            rw [flo_pre x _ _ pre (i :: post) hq]
            refine List.mem_map.2 ⟨i :: m, ?_, rfl⟩
            simp only [flo, hwi, cond_false]
            exact List.mem_append.2 (.inr (List.mem_map.2 ⟨m, hm, rfl⟩))
        have hall' := opI_all (fun o ho => hok.act i o ho hwi) (flo_ne x (wtB ops x) (kpB ops ks x) (pre ++ post)) key
        refine wpOp_mono (fun a' w' hh => ?_) (wpOp_of_opI (Q := Q) hall')
        exact ih (pre ++ post) _ a' w' (by simp at hl ⊢; omega) (by rw [getD_set_ne false hix]; exact hx) (set_inv inv hoi hall) hh

theorem wp_region_flo {id : Nat} {a : Act} {w : World} (x : Nat) (hm : P.follows .mixedOrders = true) (hok : floOk ops ks x = true) (h : ∀ l, l ∈ flo x (wtB ops x) (kpB ops ks x) ((List.range ops.size).filter fun i => !Nat.beq i x) → wpLex P C ops ks Q l a { w with drawn := w.drawn + 1 }) : (Code.region id ops true).wp P Q a w := by
  have hF := FOk.of hok
  have hnd : ((List.range ops.size).filter fun i => !Nat.beq i x).length + 1 = ops.size := by
    have hc : ∀ n, ((List.range n).filter fun i => !Nat.beq i x).length + (if x < n then 1 else 0) = n := by
      intro n
      induction n with
      | zero => rfl
      | succ n ihn =>
        rw [List.range_succ, List.filter_append, List.length_append]
        by_cases hxn : x = n
        · subst hxn
          rw [if_neg (by omega)] at ihn
          rw [if_pos (by omega)]
          simp
          omega
        · have hb : Nat.beq n x = false := by
            cases hb : Nat.beq n x with
            | false => rfl
            | true => exact absurd (Nat.eq_of_beq_eq_true hb).symm hxn
          by_cases hlt : x < n
          · rw [if_pos hlt] at ihn
            rw [if_pos (by omega)]
            simp [hb]
            omega
          · rw [if_neg hlt] at ihn
            rw [if_neg (by omega)]
            simp [hb]
            omega
    have := hc ops.size
    rw [if_pos hF.lt] at this
    exact this
  refine wp_region_any hm (any_of_flo hF _ _ _ a _ hnd ?_ ⟨by simp, fun i => ?_, ?_, fun j o hj hl => ?_⟩ h)
  · rw [getD_replicate_false]
  · simp only [List.mem_filter, List.mem_range]
    constructor
    · rintro ⟨h1, h2⟩
      refine ⟨h1, fun e => ?_, by simp [h1]⟩
      subst e
      simp at h2
    · rintro ⟨h1, h2, _⟩
      refine ⟨h1, ?_⟩
      cases hb : Nat.beq i x with
      | false => rfl
      | true => exact absurd (Nat.eq_of_beq_eq_true hb) h2
  · exact List.pairwise_lt_range.filter _
  · rw [getD_replicate_false] at hl
    exact absurd hl (by simp)

/-- a row of operations by their numbers -/
def pk (l : List Oper) (r : List Nat) : List Oper := r.map fun i => l.getD i default
def kr (ks : Nat → Kd) (r : List Nat) (i : Nat) : Kd := ks (r.getD i 0)
theorem wpLexL_pk {l : List Oper} : ∀ (done rest : List Nat), (∀ i ∈ rest, i < l.length) → wpLexL P C l.toArray (kr ks (done ++ rest)) Q done.length (pk l rest) = wpLex P C l.toArray ks Q rest
  | done, [], _ => rfl
  | done, i :: rest, h => by
    have ih := wpLexL_pk (done ++ [i]) rest (fun j hj => h j (by simp [hj]))
    rw [List.append_assoc, List.singleton_append, List.length_append] at ih
    have hi : l[i]? = some (l.getD i default) := by
      have := h i (by simp)
      simp [List.getD_eq_getElem?_getD, this]
    have hk : kr ks (done ++ i :: rest) done.length = ks i := by simp [kr]
    funext a w
    simp only [pk, List.map_cons, wpLexL, wpLex, opI, List.getElem?_toArray, hi, hk]
    simp only [pk] at ih
    rw [← ih]
    rfl

def allL {α : Type} : List α → (α → Prop) → Prop
  | [], _ => True
  | x :: l, p => p x ∧ allL l p
theorem allL_mem {α : Type} {p : α → Prop} : ∀ {l : List α}, allL l p → ∀ x ∈ l, p x
  | [], _, x, hx => by cases hx
  | y :: l, h, x, hx => by
    rcases List.mem_cons.1 hx with rfl | hx
    · exact h.1
    · exact allL_mem h.2 x hx
theorem TC.lexF {n : FD} {s : Sg} {w0 : World} {L : List HP} {id : Nat} {l : List Oper} (x : Nat) (R : List (List Nat)) (hm : P.follows .mixedOrders = true) (hok : (floOk l.toArray (kds l []) x && (decide (flo x (wtB l.toArray x) (kpB l.toArray (kds l []) x) ((List.range l.length).filter fun i => !Nat.beq i x) = R) && R.all fun r => r.all fun i => Nat.blt i l.length)) = true)
    (h : allL R fun r => TL P (St w0 L) l.toArray (kr (kds l []) r) Q 0 (pk l r) n s (St w0 L)) : TC P (.region id l.toArray true) Q n s (St w0 L) := by
  simp only [Bool.and_eq_true, decide_eq_true_eq, List.all_eq_true] at hok
  obtain ⟨h1, h2, h3⟩ := hok
  refine ⟨fun a w hf hw => wp_region_flo (C := St w0 L) x hm h1 fun r hr => ?_⟩
  simp only [List.size_toArray] at hr
  rw [h2] at hr
  have := (allL_mem h r hr).go a w.drew hf hw.drew
  have e := wpLexL_pk (P := P) (C := St w0 L) (Q := Q) (ks := kds l []) (l := l) [] r (fun i hi => blt_lt (h3 r hr i hi))
  rw [List.nil_append, List.length_nil] at e
  rw [e] at this
  exact this
end
end Go.Sl
