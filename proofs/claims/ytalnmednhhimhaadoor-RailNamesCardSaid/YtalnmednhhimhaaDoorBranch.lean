/-
  Statements whose order is drawn: those that stand still come first, and among the others each one may come next. A tree of rows.
-/
import Derived.Test.YtalnmednhhimhaaDoorFloat
set_option linter.all false
namespace Go.Sl
open Go.RowKit
set_option linter.unusedVariables false

section
variable {P : Program} {C : World → Prop} {ops : Array Oper} {ks : Nat → Kd} {Q : Exit → Act → World → Prop}

def inN (k : Nat) (l : List Nat) : Bool := l.any fun x => Nat.beq x k
theorem inN_iff {k : Nat} {l : List Nat} : inN k l = true ↔ k ∈ l := by
  simp only [inN, List.any_eq_true]
  constructor
  · rintro ⟨x, hx, e⟩
    rw [← Nat.eq_of_beq_eq_true e]; exact hx
  · intro h
    exact ⟨k, h, by simp⟩
def delN (k : Nat) : List Nat → List Nat
  | [] => []
  | x :: l => bif Nat.beq x k then l else x :: delN k l
theorem delN_erase (k : Nat) : ∀ l : List Nat, delN k l = l.erase k
  | [] => rfl
  | x :: l => by
    rw [delN, List.erase_cons, delN_erase k l]
    cases h : Nat.beq x k with
    | true => rw [Nat.eq_of_beq_eq_true h]; simp
    | false =>
      have : (x == k) = false := by
        cases hb : x == k with
        | false => rfl
        | true => rw [eq_of_beq hb] at h; simp at h
      simp [this]

def rdyB (ops : Array Oper) (rem : List Nat) (i : Nat) : Bool :=
  match ops[i]? with
  | some o => o.after.all fun e => !Region.binds .any e || !inN e.on rem
  | none => false
def rdyL (ops : Array Oper) (rem : List Nat) : List Nat := rem.filter fun i => rdyB ops rem i
theorem rdyL_iff {rem : List Nat} {i : Nat} : i ∈ rdyL ops rem ↔ i ∈ rem ∧ ∃ o, ops[i]? = some o ∧ ∀ e ∈ o.after, Region.binds .any e = true → e.on ∉ rem := by
  rw [rdyL, List.mem_filter]
  constructor
  · rintro ⟨h1, h2⟩
    refine ⟨h1, ?_⟩
    unfold rdyB at h2
    cases ho : ops[i]? with
    | none => rw [ho] at h2; cases h2
    | some o =>
      rw [ho] at h2
      refine ⟨o, rfl, fun e he hb hm => ?_⟩
      have := (Array.all_eq_true_iff_forall_mem.1 h2) e he
      simp only [hb, Bool.not_true, Bool.false_or, Bool.not_eq_true'] at this
      rw [inN_iff.2 hm] at this
      cases this
  · rintro ⟨h1, o, ho, h2⟩
    refine ⟨h1, ?_⟩
    unfold rdyB
    rw [ho]
    refine Array.all_eq_true_iff_forall_mem.2 fun e he => ?_
    cases hb : Region.binds .any e with
    | false => rfl
    | true =>
      have := h2 e he hb
      cases hi : inN e.on rem with
      | false => rfl
      | true => exact absurd (inN_iff.1 hi) this

/-- what is to be shown of those that are left -/
def wpN (P : Program) (C : World → Prop) (ops : Array Oper) (ks : Nat → Kd) (Q : Exit → Act → World → Prop) : Nat → List Nat → Act → World → Prop
  | 0, _ => fun a w => Q .normal a w
  | f + 1, rem => fun a w => match (rdyL ops rem).find? fun i => (ks i).still with
    | some i => opI P C ops ks i (wpN P C ops ks Q f (rem.erase i)) a w
    | none => ∀ i ∈ rdyL ops rem, opI P C ops ks i (wpN P C ops ks Q f (rem.erase i)) a w

theorem swap_I {k i : Nat} {K : Act → World → Prop} (hsel : Region.noSelect ops = true) (hpk : pairB ops ks k i = true) {a : Act} {w : World} (h1 : opI P C ops ks k (fun a w => opI P C ops ks i K a w) a w) :
    opI P C ops ks i (opI P C ops ks k K) a w := by
  unfold opI at h1 ⊢
  unfold pairB at hpk
  cases hk : ops[k]? with
  | none =>
    simp only [hk] at h1
    exact h1
  | some o1 =>
    cases hi : ops[i]? with
    | none =>
      simp only [hk, hi] at h1 ⊢
      exact h1
    | some o2 =>
      simp only [hk, hi, Bool.and_eq_true] at h1 hpk ⊢
      exact swap_K (Two.of hpk.1 (Region.noSelect_spec hsel k o1 · · hk) (Region.noSelect_spec hsel i o2 · · hi)) hpk.2 h1

structure Up (ops : Array Oper) (rem : List Nat) : Prop where
  nodup : rem.Nodup
  closed : ∀ j o, ops[j]? = some o → j ∉ rem → ∀ e ∈ o.after, Region.binds .any e = true → e.on ∉ rem
theorem Up.erase {rem : List Nat} {i : Nat} (h : Up ops rem) (hi : i ∈ rdyL ops rem) : Up ops (rem.erase i) := by
  refine ⟨h.nodup.erase i, fun j o ho hj e he hb hm => ?_⟩
  have hm' := List.mem_of_mem_erase hm
  by_cases hji : j = i
  · subst hji
    obtain ⟨_, o', ho', ha⟩ := rdyL_iff.1 hi
    rw [ho] at ho'
    cases ho'
    exact ha e he hb hm'
  · refine h.closed j o ho (fun hh => hj ?_) e he hb hm'
    exact (List.mem_erase_of_ne hji).2 hh
theorem rdy_erase {rem : List Nat} {i j : Nat} (hj : j ∈ rdyL ops rem) (hij : j ≠ i) : j ∈ rdyL ops (rem.erase i) := by
  obtain ⟨h1, o, ho, ha⟩ := rdyL_iff.1 hj
  exact rdyL_iff.2 ⟨(List.mem_erase_of_ne hij).2 h1, o, ho, fun e he hb hm => ha e he hb (List.mem_of_mem_erase hm)⟩
theorem waits_out {rem : List Nat} (hc : ∀ j o, ops[j]? = some o → j ∉ rem → ∀ e ∈ o.after, Region.binds .any e = true → e.on ∉ rem) :
    ∀ (f i k : Nat) (o : Oper), ops[i]? = some o → (∀ e ∈ o.after, Region.binds .any e = true → e.on ∉ rem) → waitsB ops f i k = true → k ∉ rem
  | 0, _, _, _, _, _, h => by simp [waitsB] at h
  | f + 1, i, k, o, ho, ha, h => by
    unfold waitsB at h
    rw [ho] at h
    simp only at h
    obtain ⟨e, he, hb⟩ := Array.any_eq_true'.1 h
    simp only [Bool.and_eq_true, Bool.or_eq_true] at hb
    have hl := ha e he hb.1
    rcases hb.2 with hb2 | hb2
    · have := Nat.eq_of_beq_eq_true hb2
      rw [← this]
      exact hl
    · cases ho' : ops[e.on]? with
      | none =>
        cases f with
        | zero => simp [waitsB] at hb2
        | succ f => simp [waitsB, ho'] at hb2
      | some o' => exact waits_out hc f e.on k o' ho' (hc _ _ ho' hl) hb2

/-- the look at the region -/
def brOk (ops : Array Oper) (ks : Nat → Kd) : Bool :=
  Region.noSelect ops && (List.range ops.size).all fun i =>
    (match ops[i]? with | some o => o.after.all fun e => !Region.binds .any e || Nat.blt e.on i | none => true) &&
    (!(ks i).still || (List.range ops.size).all fun j => Nat.beq i j || (pairB ops ks i j || (waitsB ops 6 i j || waitsB ops 6 j i)))
structure BOk (ops : Array Oper) (ks : Nat → Kd) : Prop where
  sel : Region.noSelect ops = true
  back : ∀ i o, ops[i]? = some o → ∀ e ∈ o.after, Region.binds .any e = true → e.on < i
  pair : ∀ i j, i < ops.size → j < ops.size → i ≠ j → (ks i).still = true → pairB ops ks i j = true ∨ waitsB ops 6 i j = true ∨ waitsB ops 6 j i = true
theorem BOk.of (h : brOk ops ks = true) : BOk ops ks := by
  simp only [brOk, Bool.and_eq_true, List.all_eq_true, List.mem_range] at h
  obtain ⟨h1, h2⟩ := h
  refine ⟨h1, fun i o ho e he hb => ?_, fun i j hi hj hij hs => ?_⟩
  · have := (h2 i (Array.getElem?_eq_some_iff.1 ho).1).1
    rw [ho] at this
    have h5 := (Array.all_eq_true_iff_forall_mem.1 this) e he
    simp only [hb, Bool.not_true, Bool.false_or] at h5
    exact blt_lt h5
  · have := (h2 i hi).2
    simp only [hs, Bool.not_true, Bool.false_or, List.all_eq_true, List.mem_range, Bool.or_eq_true] at this
    rcases this j hj with h | h | h
    · exact absurd (Nat.eq_of_beq_eq_true h) hij
    · exact .inl h
    · exact .inr h
theorem BOk.two (h : BOk ops ks) {rem : List Nat} (hu : Up ops rem) {i j : Nat} (hi : i ∈ rdyL ops rem) (hj : j ∈ rdyL ops rem) (hij : i ≠ j) (hs : (ks i).still = true) : pairB ops ks i j = true := by
  obtain ⟨hi1, oi, hoi, hia⟩ := rdyL_iff.1 hi
  obtain ⟨hj1, oj, hoj, hja⟩ := rdyL_iff.1 hj
  rcases h.pair i j (Array.getElem?_eq_some_iff.1 hoi).1 (Array.getElem?_eq_some_iff.1 hoj).1 hij hs with h | h | h
  · exact h
  · exact absurd hj1 (waits_out hu.closed 6 i j oi hoi hia h)
  · exact absurd hi1 (waits_out hu.closed 6 j i oj hoj hja h)

theorem len_erase {rem : List Nat} {i f : Nat} (hi : i ∈ rem) (hl : rem.length = f + 1) : (rem.erase i).length = f := by
  rw [List.length_erase_of_mem hi, hl]; rfl
theorem wpN_AB (hok : BOk ops ks) : ∀ (f : Nat),
    (∀ rem : List Nat, rem.length = f + 1 → Up ops rem → ∀ j ∈ rdyL ops rem, ∀ a w, wpN P C ops ks Q (f + 1) rem a w → opI P C ops ks j (wpN P C ops ks Q f (rem.erase j)) a w) ∧
    (∀ rem : List Nat, rem.length = f + 1 → Up ops rem → ∀ i ∈ rdyL ops rem, (ks i).still = true → ∀ a w, opI P C ops ks i (wpN P C ops ks Q f (rem.erase i)) a w → wpN P C ops ks Q (f + 1) rem a w) := by
  intro f
  induction f with
  | zero =>
    have key : ∀ rem : List Nat, rem.length = 0 + 1 → ∀ i ∈ rem, ∀ j ∈ rem, i = j := by
      intro rem hl i hi j hj
      match rem, hl with
      | [x], _ => simp at hi hj; rw [hi, hj]
    refine ⟨fun rem hl hu j hj a w h => ?_, fun rem hl hu i hi hs a w h => ?_⟩
    · unfold wpN at h
      split at h
      · rename_i i hf
        have := key rem hl i (rdyL_iff.1 (List.mem_of_find?_eq_some hf)).1 j (rdyL_iff.1 hj).1
        rw [← this]; exact h
      · exact h j hj
    · unfold wpN
      split
      · rename_i j hf
        have := key rem hl i (rdyL_iff.1 hi).1 j (rdyL_iff.1 (List.mem_of_find?_eq_some hf)).1
        rw [← this]; exact h
      · rename_i hf
        have := List.find?_eq_none.1 hf i hi
        rw [hs] at this
        exact absurd rfl this
  | succ f ih =>
    obtain ⟨ihA, ihB⟩ := ih
    have step : ∀ rem : List Nat, rem.length = f + 1 + 1 → Up ops rem → ∀ i ∈ rdyL ops rem, ∀ j ∈ rdyL ops rem, i ≠ j → (ks i).still = true → ∀ a w, opI P C ops ks i (wpN P C ops ks Q (f + 1) (rem.erase i)) a w →
        opI P C ops ks j (wpN P C ops ks Q (f + 1) (rem.erase j)) a w := by
      intro rem hl hu i hi j hj hij hs a w h
      have h1 : opI P C ops ks i (fun a w => opI P C ops ks j (wpN P C ops ks Q f ((rem.erase i).erase j)) a w) a w :=
        opI.mono (fun a w hh => ihA _ (len_erase (rdyL_iff.1 hi).1 hl) (hu.erase hi) j (rdy_erase hj (Ne.symm hij)) a w hh) h
      have h2 := swap_I hok.sel (hok.two hu hi hj hij hs) h1
      rw [List.erase_comm] at h2
      exact opI.mono (fun a w hh => ihB _ (len_erase (rdyL_iff.1 hj).1 hl) (hu.erase hj) i (rdy_erase hi hij) hs a w hh) h2
    refine ⟨fun rem hl hu j hj a w h => ?_, fun rem hl hu i hi hs a w h => ?_⟩
    · rw [wpN] at h
      split at h
      · rename_i i hf
        have hi := List.mem_of_find?_eq_some hf
        have hs : (ks i).still = true := by simpa using List.find?_some hf
        by_cases hij : i = j
        · rw [← hij]; exact h
        · exact step rem hl hu i hi j hj hij hs a w h
      · exact h j hj
    · rw [wpN]
      split
      · rename_i j hf
        by_cases hij : i = j
        · rw [← hij]; exact h
        · exact step rem hl hu i hi j (List.mem_of_find?_eq_some hf) hij hs a w h
      · rename_i hf
        have := List.find?_eq_none.1 hf i hi
        rw [hs] at this
        exact absurd rfl this

structure NInv (ops : Array Oper) (rem : List Nat) (listed : Array Bool) : Prop where
  size : listed.size = ops.size
  mem : ∀ i, i ∈ rem ↔ (i < ops.size ∧ listed.getD i true = false)
  up : Up ops rem

theorem any_of_N (hok : BOk ops ks) : ∀ (fuel : Nat) (rem : List Nat) (listed : Array Bool) (a : Act) (w : World), rem.length = fuel → NInv ops rem listed → wpN P C ops ks Q fuel rem a w → wpAny P .any ops Q fuel listed a w := by
  intro fuel
  induction fuel with
  | zero =>
    intro rem listed a w hl inv h
    obtain rfl := List.eq_nil_of_length_eq_zero hl
    refine ⟨?_, h⟩
    rw [List.eq_nil_iff_forall_not_mem]
    intro j hj
    obtain ⟨h1, o, ho, _⟩ := mem_ready.1 hj
    have := (inv.mem j).2 ⟨(Array.getElem?_eq_some_iff.1 ho).1, h1⟩
    simp at this
  | succ fuel ih =>
    intro rem listed a w hl inv h
    have hrdy : ∀ i, i ∈ Region.ready .any ops listed ↔ i ∈ rdyL ops rem := by
      intro i
      rw [mem_ready, rdyL_iff, inv.mem i]
      constructor
      · rintro ⟨h1, o, ho, h2⟩
        refine ⟨⟨(Array.getElem?_eq_some_iff.1 ho).1, h1⟩, o, ho, fun e he hb hm => ?_⟩
        have hh := h2 e he hb
        have hx := (inv.mem e.on).1 hm
        rw [getD_tf (by rw [inv.size]; exact hx.1), hh] at hx
        cases hx.2
      · rintro ⟨⟨h0, h1⟩, o, ho, h2⟩
        refine ⟨h1, o, ho, fun e he hb => ?_⟩
        have hlt := hok.back i o ho e he hb
        cases hle : listed.getD e.on false with
        | true => rfl
        | false => exact absurd ((inv.mem e.on).2 ⟨by omega, by rw [getD_tf (by rw [inv.size]; omega)]; exact hle⟩) (h2 e he hb)
    refine ⟨fun hnil => ?_, fun i hi => ?_⟩
    · -- the least one that is left is ready
      have hne : rem ≠ [] := by rintro rfl; simp at hl
      have hex : ∃ i, i ∈ rem ∧ ∀ k ∈ rem, i ≤ k := by
        have : ∀ l : List Nat, l ≠ [] → ∃ i, i ∈ l ∧ ∀ k ∈ l, i ≤ k := by
          intro l
          induction l with
          | nil => intro h; exact absurd rfl h
          | cons x l ihl =>
            intro _
            by_cases hn : l = []
            · subst hn; exact ⟨x, by simp, by simp⟩
            · obtain ⟨i, hi, hk⟩ := ihl hn
              by_cases hxi : x ≤ i
              · refine ⟨x, by simp, fun k hkm => ?_⟩
                rcases List.mem_cons.1 hkm with rfl | hkm
                · exact Nat.le_refl _
                · exact Nat.le_trans hxi (hk k hkm)
              · refine ⟨i, by simp [hi], fun k hkm => ?_⟩
                rcases List.mem_cons.1 hkm with rfl | hkm
                · omega
                · exact hk k hkm
        exact this rem hne
      obtain ⟨i, him, hmin⟩ := hex
      have hlt := ((inv.mem i).1 him).1
      have : i ∈ Region.ready .any ops listed := (hrdy i).2 (rdyL_iff.2 ⟨him, _, Array.getElem?_eq_getElem hlt, fun e he hb hm => by
        have h1 := hok.back i _ (Array.getElem?_eq_getElem hlt) e he hb
        have h2 := hmin _ hm
        omega⟩)
      rw [hnil] at this
      cases this
    · have hi' := (hrdy i).1 hi
      obtain ⟨hun, oi, hoi, hall⟩ := mem_ready.1 hi
      have hilt : i < ops.size := (Array.getElem?_eq_some_iff.1 hoi).1
      have hA := (wpN_AB (P := P) (C := C) (Q := Q) hok fuel).1 rem hl inv.up i hi' a w h
      refine wpOp_mono (fun a' w' hh => ?_) (wpOp_of_opI (Q := Q) hA)
      refine ih (rem.erase i) (listed.setIfInBounds i true) a' w' (len_erase (rdyL_iff.1 hi').1 hl) ⟨by simp [inv.size], fun j => ?_, inv.up.erase hi'⟩ hh
      by_cases hji : j = i
      · subst hji
        constructor
        · intro hm; exact absurd hm (by rw [inv.up.nodup.mem_erase_iff]; simp)
        · rintro ⟨_, hm⟩
          have : j < listed.size := by rw [inv.size]; exact hilt
          simp [this] at hm
      · have e1 : (listed.setIfInBounds i true).getD j true = listed.getD j true := getD_set_ne true (fun e => hji e.symm)
        rw [e1, ← inv.mem j, List.mem_erase_of_ne hji]

theorem wp_region_br {id : Nat} {a : Act} {w : World} (hm : P.follows .mixedOrders = true) (hok : brOk ops ks = true) (h : wpN P C ops ks Q ops.size (List.range ops.size) a { w with drawn := w.drawn + 1 }) : (Code.region id ops true).wp P Q a w := by
  refine wp_region_any hm (any_of_N (BOk.of hok) _ (List.range ops.size) _ a _ (by simp) ⟨by simp, fun i => ?_, List.nodup_range, fun j o ho hj => ?_⟩ h)
  · rw [List.mem_range]
    constructor
    · intro hi; exact ⟨hi, by simp [hi]⟩
    · exact fun hi => hi.1
  · exact absurd (List.mem_range.2 (Array.getElem?_eq_some_iff.1 ho).1) hj

/-- a tree of rows -/
inductive Tr where
  | fin
  | seg (r : List Nat) (t : Tr)
  | both (a b : Tr)
def Tr.eqB : Tr → Tr → Bool
  | .fin, .fin => true
  | .seg r t, .seg r' t' => r == r' && Tr.eqB t t'
  | .both a b, .both a' b' => Tr.eqB a a' && Tr.eqB b b'
  | _, _ => false
theorem Tr.eqB_eq : ∀ {a b : Tr}, Tr.eqB a b = true → a = b
  | .fin, .fin, _ => rfl
  | .seg r t, .seg r' t', h => by
    simp only [Tr.eqB, Bool.and_eq_true, beq_iff_eq] at h
    rw [h.1, Tr.eqB_eq h.2]
  | .both a b, .both a' b', h => by
    simp only [Tr.eqB, Bool.and_eq_true] at h
    rw [Tr.eqB_eq h.1, Tr.eqB_eq h.2]
  | .fin, .seg .., h => by simp [Tr.eqB] at h
  | .fin, .both .., h => by simp [Tr.eqB] at h
  | .seg .., .fin, h => by simp [Tr.eqB] at h
  | .seg .., .both .., h => by simp [Tr.eqB] at h
  | .both .., .fin, h => by simp [Tr.eqB] at h
  | .both .., .seg .., h => by simp [Tr.eqB] at h
def Tr.cons (i : Nat) : Tr → Tr
  | .seg r t => .seg (i :: r) t
  | t => .seg [i] t
def Tr.alts : List Tr → Tr
  | [] => .fin
  | [t] => t
  | t :: l => .both t (Tr.alts l)
def wpT (P : Program) (C : World → Prop) (ops : Array Oper) (ks : Nat → Kd) (Q : Exit → Act → World → Prop) : Tr → Act → World → Prop
  | .fin => fun a w => Q .normal a w
  | .seg r t => wpLex P C ops ks (fun _ => wpT P C ops ks Q t) r
  | .both x y => fun a w => wpT P C ops ks Q x a w ∧ wpT P C ops ks Q y a w
def mkTr (ops : Array Oper) (ks : Nat → Kd) : Nat → List Nat → Tr
  | 0, _ => .fin
  | f + 1, rem => match (rdyL ops rem).find? fun i => (ks i).still with
    | some i => Tr.cons i (mkTr ops ks f (delN i rem))
    | none => Tr.alts ((rdyL ops rem).map fun i => Tr.cons i (mkTr ops ks f (delN i rem)))
theorem wpT_cons {i : Nat} {t : Tr} {a : Act} {w : World} (h : wpT P C ops ks Q (Tr.cons i t) a w) : opI P C ops ks i (wpT P C ops ks Q t) a w := by
  cases t <;> exact h
theorem wpT_alts : ∀ {l : List Tr} {a : Act} {w : World}, wpT P C ops ks Q (Tr.alts l) a w → ∀ t ∈ l, wpT P C ops ks Q t a w
  | [], _, _, _, t, ht => by cases ht
  | [x], _, _, h, t, ht => by
    rw [List.mem_singleton] at ht
    rw [ht]; exact h
  | x :: y :: l, a, w, h, t, ht => by
    rcases List.mem_cons.1 ht with rfl | ht
    · exact h.1
    · exact wpT_alts h.2 t ht
theorem wpN_of_T : ∀ (f : Nat) (rem : List Nat) (a : Act) (w : World), wpT P C ops ks Q (mkTr ops ks f rem) a w → wpN P C ops ks Q f rem a w
  | 0, _, a, w, h => h
  | f + 1, rem, a, w, h => by
    unfold mkTr at h
    rw [wpN]
    split
    · rename_i i hf
      rw [hf] at h
      simp only [delN_erase] at h
      exact opI.mono (fun a w hh => wpN_of_T f _ a w hh) (wpT_cons h)
    · rename_i hf
      intro i hi
      rw [hf] at h
      simp only [delN_erase] at h
      have := wpT_alts h _ (List.mem_map.2 ⟨i, hi, rfl⟩)
      exact opI.mono (fun a w hh => wpN_of_T f _ a w hh) (wpT_cons this)

/-- the judgment of a tree -/
structure TT (P : Program) (C : World → Prop) (l : List Oper) (ks : Nat → Kd) (Q : Exit → Act → World → Prop) (t : Tr) (n : FD) (s : Sg) (M : World → Prop) : Prop where
  go : ∀ a w, Fr n s a → M w → wpT P C l.toArray ks Q t a w
def Tr.okB (n : Nat) : Tr → Bool
  | .fin => true
  | .seg r t => (r.all fun i => Nat.blt i n) && Tr.okB n t
  | .both a b => Tr.okB n a && Tr.okB n b
theorem TC.lexT {n : FD} {s : Sg} {w0 : World} {L : List HP} {id : Nat} {l : List Oper} (ovr : List (Nat × Kd)) (t : Tr) (hm : P.follows .mixedOrders = true) (hok : (brOk l.toArray (kds l ovr) && Tr.eqB (mkTr l.toArray (kds l ovr) l.length (List.range l.length)) t) = true)
    (h : TT P (St w0 L) l (kds l ovr) Q t n s (St w0 L)) : TC P (.region id l.toArray true) Q n s (St w0 L) := by
  simp only [Bool.and_eq_true] at hok
  refine ⟨fun a w hf hw => wp_region_br (C := St w0 L) hm hok.1 (wpN_of_T _ _ _ _ ?_)⟩
  have := h.go a w.drew hf hw.drew
  rw [← Tr.eqB_eq hok.2] at this
  simpa using this
variable {l : List Oper} {n : FD} {s : Sg} {M : World → Prop}
theorem TT.fin (k : TX Q .normal n s M) : TT P C l ks Q .fin n s M := ⟨fun a w hf hm => k.go a w hf hm⟩
theorem TT.both {x y : Tr} (hx : TT P C l ks Q x n s M) (hy : TT P C l ks Q y n s M) : TT P C l ks Q (.both x y) n s M := ⟨fun a w hf hm => ⟨hx.go a w hf hm, hy.go a w hf hm⟩⟩
theorem TX.tree {t : Tr} (k : TT P C l ks Q t n s M) : TX (fun _ => wpT P C l.toArray ks Q t) .normal n s M := ⟨fun a w hf hm => k.go a w hf hm⟩
theorem TT.seg {r : List Nat} {t : Tr} (hr : (r.all fun i => Nat.blt i l.length) = true) (k : TL P C l.toArray (kr ks r) (fun _ => wpT P C l.toArray ks Q t) 0 (pk l r) n s M) : TT P C l ks Q (.seg r t) n s M := by
  refine ⟨fun a w hf hm => ?_⟩
  have := k.go a w hf hm
  have e := wpLexL_pk (P := P) (C := C) (Q := fun _ => wpT P C l.toArray ks Q t) (ks := ks) (l := l) [] r (fun i hi => blt_lt (List.all_eq_true.1 hr i hi))
  rw [List.nil_append, List.length_nil] at e
  rw [e] at this
  exact this
/-- a store that keeps what is to be kept -/
theorem TL.keepN {ι : Sort _} {M' : ι → World → Prop} {i : Nat} {op : Op} {ty : TypeId} {pos : String} {af : Array Edge} {rest : List Oper} (hk : ks i = .keep) (hC : ∀ w, M w → C w) (h : AcN P n s M op ty M') (hC' : ∀ x w, M' x w → C w)
    (k : ∀ x, TL P C ops ks Q (i + 1) rest n s (M' x)) : TL P C ops ks Q i (⟨none, op, ty, pos, af, none⟩ :: rest) n s M := by
  refine ⟨fun a w hf hm => ?_⟩
  show opK P C ops (ks i) _ _ a w
  rw [opK_t (by simp [Region.wanted]), hk, opR_l rfl]
  exact ⟨hC w hm, Loud.of_acN h rfl rfl hf hm fun x w' v hm' => ⟨hC' x w' hm', (k x).go _ _ hf hm'⟩⟩
end
end Go.Sl
