/-
  Statements whose order is drawn: the lexical order serves every order, where each two operations that may be turned about do not meddle with one another.
-/
import Derived.Test.YtalnmednhhimhaaDoorCore
set_option linter.all false
namespace Go.Sl
open Go.RowKit
set_option linter.unusedVariables false

inductive Kd where
  | pure
  | quiet
  | here
  | keep
  | loud

/-- of two operations, the first one ahead in the text: may they be turned about? -/
def Kd.compat : Kd → Kd → Bool
  | .pure, _ => true
  | _, .pure => true
  | .quiet, .quiet => true
  | .quiet, .here => true
  | .here, .quiet => true
  | .here, .here => true
  | .quiet, .keep => true
  | .keep, .quiet => true
  | _, _ => false

section
variable {P : Program} {C : World → Prop} {ops : Array Oper}

/-- an act: it yields a value, and leaves a world -/
def Loud (P : Program) (o : Oper) (a : Act) (w : World) (F : Value → World → Prop) : Prop :=
  match (execOp a.eval o).run P w with
  | .ok (.value v) w' => F v w'
  | .ok .skip w' => F undef w'
  | .ok (.enter f args) w' => Calls P f args w' (fun e w'' => ∃ v, e = .returned v ∧ F v w'')
  | _ => False

theorem Loud.mono {o : Oper} {a : Act} {w : World} {F F' : Value → World → Prop} (h : ∀ v w', F v w' → F' v w') (hh : Loud P o a w F) : Loud P o a w F' := by
  unfold Loud at *
  split at hh
  · exact h _ _ hh
  · exact h _ _ hh
  · exact hh.mono fun e w'' ⟨v, he, hf⟩ => ⟨v, he, h _ _ hf⟩
  · exact hh.elim
theorem Loud.ex {o : Oper} {a : Act} {w : World} {F : Value → World → Prop} (hh : Loud P o a w F) : ∃ v w', F v w' := by
  unfold Loud at hh
  split at hh
  · exact ⟨_, _, hh⟩
  · exact ⟨_, _, hh⟩
  · obtain ⟨e, w', fr, ⟨v, he, hf⟩, _⟩ := hh []
    exact ⟨v, w', hf⟩
  · exact hh.elim
theorem Loud.of_same {o : Oper} {a a' : Act} {w : World} {F : Value → World → Prop} (he : execOp a'.eval o = execOp a.eval o) (hh : Loud P o a w F) : Loud P o a' w F := by
  unfold Loud at *
  rw [he]
  exact hh
theorem Loud.wp {o : Oper} {a : Act} {w : World} {K : Act → World → Prop} {Q : Exit → Act → World → Prop} (hh : Loud P o a w fun v w' => K (a.put o.dst v) w') : o.wp P a w K Q := by
  unfold Loud at hh
  unfold Oper.wp
  split at hh
  · rename_i hr; rw [hr]; exact hh
  · rename_i hr; rw [hr]; exact hh
  · rename_i hr
    rw [hr]
    exact hh.mono fun e w'' ⟨v, he, hf⟩ => by subst he; exact hf
  · exact hh.elim

/-- in which worlds a read is asked -/
def Kd.dom (C : World → Prop) (w : World) : Kd → World → Prop
  | .pure, _ => True
  | .quiet, w' => C w'
  | _, w' => w' = w
def Kd.still : Kd → Bool
  | .pure | .quiet | .here => true
  | _ => false

/-- what a keeping one keeps -/
def Kd.kc (C : World → Prop) : Kd → World → Prop
  | .keep, w => C w
  | _, _ => True

def opR (P : Program) (C : World → Prop) (k : Kd) (o : Oper) (K : Act → World → Prop) (a : Act) (w : World) : Prop :=
  if k.still then k.dom C w w ∧ ∃ v, (∀ w', k.dom C w w' → (execOp a.eval o).run P w' = .ok (.value v) w') ∧ K (a.put o.dst v) w
  else Loud P o a w fun v w' => Kd.kc C k w' ∧ K (a.put o.dst v) w'
/-- one operation by its kind -/
def opK (P : Program) (C : World → Prop) (ops : Array Oper) (k : Kd) (o : Oper) (K : Act → World → Prop) (a : Act) (w : World) : Prop :=
  if Region.wanted o (yielded ops a.tmps) then Kd.kc C k w ∧ opR P C k o K a w else K (a.put o.dst undef) w

theorem opR.mono {k : Kd} {o : Oper} {K K' : Act → World → Prop} {a : Act} {w : World} (h : ∀ a w, K a w → K' a w) (hh : opR P C k o K a w) : opR P C k o K' a w := by
  unfold opR at *
  split
  · rename_i hk
    rw [if_pos hk] at hh
    obtain ⟨h1, v, h2, h3⟩ := hh
    exact ⟨h1, v, h2, h _ _ h3⟩
  · rename_i hk
    rw [if_neg hk] at hh
    exact hh.mono fun v w' ⟨h1, h2⟩ => ⟨h1, h _ _ h2⟩
theorem opK.mono {k : Kd} {o : Oper} {K K' : Act → World → Prop} {a : Act} {w : World} (h : ∀ a w, K a w → K' a w) (hh : opK P C ops k o K a w) : opK P C ops k o K' a w := by
  unfold opK at *
  split
  · rename_i hk; rw [if_pos hk] at hh; exact ⟨hh.1, hh.2.mono h⟩
  · rename_i hk; rw [if_neg hk] at hh; exact h _ _ hh

theorem opR_s {k : Kd} {o : Oper} {K : Act → World → Prop} {a : Act} {w : World} (hk : k.still = true) : opR P C k o K a w = (k.dom C w w ∧ ∃ v, (∀ w', k.dom C w w' → (execOp a.eval o).run P w' = .ok (.value v) w') ∧ K (a.put o.dst v) w) := if_pos hk
theorem opR_l {k : Kd} {o : Oper} {K : Act → World → Prop} {a : Act} {w : World} (hk : k.still = false) : opR P C k o K a w = Loud P o a w (fun v w' => Kd.kc C k w' ∧ K (a.put o.dst v) w') := by
  unfold opR
  rw [if_neg (by rw [hk]; simp)]

structure Two (ops : Array Oper) (o1 o2 : Oper) : Prop where
  l12 : ∀ (a : Act) v, execOp (a.put o1.dst v).eval o2 = execOp a.eval o2
  l21 : ∀ (a : Act) v, execOp (a.put o2.dst v).eval o1 = execOp a.eval o1
  w12 : ∀ (a : Act) v, Region.wanted o2 (yielded ops (a.put o1.dst v).tmps) = Region.wanted o2 (yielded ops a.tmps)
  w21 : ∀ (a : Act) v, Region.wanted o1 (yielded ops (a.put o2.dst v).tmps) = Region.wanted o1 (yielded ops a.tmps)
  com : ∀ (a : Act) v u, (a.put o1.dst v).put o2.dst u = (a.put o2.dst u).put o1.dst v

theorem Two.of {o1 o2 : Oper} (h : o1.apart ops o2 = true) (h1 : ∀ cs b, o1.op ≠ .select cs b) (h2 : ∀ cs b, o2.op ≠ .select cs b) : Two ops o1 o2 := by
  obtain ⟨a1, a2, a3⟩ := Oper.apart_spec h
  exact ⟨fun a v => execOp_put o2 h2 a o1.dst v a1, fun a v => execOp_put o1 h1 a o2.dst v a3, fun a v => wanted_put o2 a o1.dst v a1, fun a v => wanted_put o1 a o2.dst v a3, fun a v u => Act.put_comm a v u a2⟩

/-- two that stand still -/
theorem swap_ss {k1 k2 : Kd} {o1 o2 : Oper} {K : Act → World → Prop} {a : Act} {w : World} (t : Two ops o1 o2) (s1 : k1.still = true) (s2 : k2.still = true)
    (h : opR P C k1 o1 (fun a w => opR P C k2 o2 K a w) a w) : opR P C k2 o2 (fun a w => opR P C k1 o1 K a w) a w := by
  rw [opR_s s1] at h
  rw [opR_s s2]
  obtain ⟨d1, v, r1, h⟩ := h
  rw [opR_s s2] at h
  obtain ⟨d2, u, r2, h⟩ := h
  refine ⟨d2, u, fun w' hw' => by rw [← t.l12 a v]; exact r2 w' hw', ?_⟩
  rw [opR_s s1]
  refine ⟨d1, v, fun w' hw' => by rw [t.l21]; exact r1 w' hw', ?_⟩
  rw [← t.com]
  exact h

theorem swap_sl {k1 k2 : Kd} {o1 o2 : Oper} {K : Act → World → Prop} {a : Act} {w : World} (t : Two ops o1 o2) (s1 : k1.still = true) (s2 : k2.still = false) (hc : k1.compat k2 = true)
    (h : opR P C k1 o1 (fun a w => opR P C k2 o2 K a w) a w) : opR P C k2 o2 (fun a w => opR P C k1 o1 K a w) a w := by
  rw [opR_s s1] at h
  rw [opR_l s2]
  obtain ⟨d1, v, r1, h⟩ := h
  rw [opR_l s2] at h
  refine (h.of_same (t.l12 a v).symm).mono fun u w' ⟨h1, h2⟩ => ⟨h1, ?_⟩
  rw [opR_s s1]
  cases k1 with
  | pure => exact ⟨trivial, v, fun w'' hw => by rw [t.l21]; exact r1 w'' hw, by rw [← t.com]; exact h2⟩
  | quiet =>
    cases k2 with
    | keep => exact ⟨h1, v, fun w'' hw => by rw [t.l21]; exact r1 w'' hw, by rw [← t.com]; exact h2⟩
    | loud => simp [Kd.compat] at hc
    | _ => simp [Kd.still] at s2
  | here => cases k2 <;> simp [Kd.compat, Kd.still] at hc s2
  | _ => simp [Kd.still] at s1

theorem swap_ls {k1 k2 : Kd} {o1 o2 : Oper} {K : Act → World → Prop} {a : Act} {w : World} (t : Two ops o1 o2) (s1 : k1.still = false) (s2 : k2.still = true) (hc : k1.compat k2 = true) (hCw : Kd.kc C k1 w)
    (h : opR P C k1 o1 (fun a w => opR P C k2 o2 K a w) a w) : opR P C k2 o2 (fun a w => opR P C k1 o1 K a w) a w := by
  rw [opR_l s1] at h
  rw [opR_s s2]
  obtain ⟨v0, w0, hc0, h0⟩ := h.ex
  rw [opR_s s2] at h0
  obtain ⟨d0, u, r0, _⟩ := h0
  cases k2 with
  | pure =>
    refine ⟨trivial, u, fun w' hw' => by rw [← t.l12 a v0]; exact r0 w' trivial, ?_⟩
    rw [opR_l s1]
    refine (h.of_same (t.l21 a u)).mono fun v w' ⟨h1, h2⟩ => ⟨h1, ?_⟩
    rw [opR_s s2] at h2
    obtain ⟨_, u', r', hk⟩ := h2
    have e : u' = u := by
      have e1 := r' w' trivial
      have e2 := r0 w' trivial
      rw [t.l12] at e1 e2
      rw [e1] at e2
      injection e2 with e2
      injection e2
    subst e
    rw [← t.com]
    exact hk
  | quiet =>
    cases k1 with
    | keep =>
      refine ⟨hCw, u, fun w' hw' => by rw [← t.l12 a v0]; exact r0 w' hw', ?_⟩
      rw [opR_l s1]
      refine (h.of_same (t.l21 a u)).mono fun v w' ⟨h1, h2⟩ => ⟨h1, ?_⟩
      rw [opR_s s2] at h2
      obtain ⟨_, u', r', hk⟩ := h2
      have e : u' = u := by
        have e1 := r' w hCw
        have e2 := r0 w hCw
        rw [t.l12] at e1 e2
        rw [e1] at e2
        injection e2 with e2
        injection e2
      subst e
      rw [← t.com]
      exact hk
    | loud => simp [Kd.compat] at hc
    | _ => simp [Kd.still] at s1
  | here => cases k1 <;> simp [Kd.compat, Kd.still] at hc s1
  | _ => simp [Kd.still] at s2

theorem opR.trace {k : Kd} {o : Oper} {K : Act → World → Prop} {a : Act} {w : World} (h : opR P C k o K a w) : opR P C k o (fun a' w' => (∃ v, a' = a.put o.dst v) ∧ (k.still = true → w' = w) ∧ K a' w') a w := by
  cases hk : k.still with
  | true =>
    rw [opR_s hk] at h ⊢
    obtain ⟨d, v, r, h⟩ := h
    exact ⟨d, v, r, ⟨v, rfl⟩, fun _ => rfl, h⟩
  | false =>
    rw [opR_l hk] at h ⊢
    exact h.mono fun v w' ⟨h1, h2⟩ => ⟨h1, ⟨v, rfl⟩, (fun e => by simp at e), h2⟩

theorem swap_R {k1 k2 : Kd} {o1 o2 : Oper} {K : Act → World → Prop} {a : Act} {w : World} (t : Two ops o1 o2) (hc : k1.compat k2 = true) (c1 : Kd.kc C k1 w)
    (h : opR P C k1 o1 (fun a w => opR P C k2 o2 K a w) a w) : opR P C k2 o2 (fun a w => opR P C k1 o1 K a w) a w := by
  cases s1 : k1.still <;> cases s2 : k2.still
  · cases k1 <;> cases k2 <;> simp [Kd.compat, Kd.still] at hc s1 s2
  · exact swap_ls t s1 s2 hc c1 h
  · exact swap_sl t s1 s2 hc h
  · exact swap_ss t s1 s2 h

theorem opK_t {k : Kd} {o : Oper} {K : Act → World → Prop} {a : Act} {w : World} (hw : Region.wanted o (yielded ops a.tmps) = true) : opK P C ops k o K a w = (Kd.kc C k w ∧ opR P C k o K a w) := if_pos hw
theorem opK_f {k : Kd} {o : Oper} {K : Act → World → Prop} {a : Act} {w : World} (hw : ¬ Region.wanted o (yielded ops a.tmps) = true) : opK P C ops k o K a w = K (a.put o.dst undef) w := if_neg hw

theorem opR_put {k : Kd} {o : Oper} {K K' : Act → World → Prop} {a a' : Act} {w : World} (he : execOp a'.eval o = execOp a.eval o) (hK : ∀ v w', K (a.put o.dst v) w' → K' (a'.put o.dst v) w') (h : opR P C k o K a w) : opR P C k o K' a' w := by
  cases hk : k.still with
  | true =>
    rw [opR_s hk] at h ⊢
    obtain ⟨d, v, r, h⟩ := h
    exact ⟨d, v, fun w' hw' => by rw [he]; exact r w' hw', hK _ _ h⟩
  | false =>
    rw [opR_l hk] at h ⊢
    exact (h.of_same he).mono fun v w' ⟨h1, h2⟩ => ⟨h1, hK _ _ h2⟩

theorem swap_K {k1 k2 : Kd} {o1 o2 : Oper} {K : Act → World → Prop} {a : Act} {w : World} (t : Two ops o1 o2) (hc : k1.compat k2 = true)
    (h : opK P C ops k1 o1 (fun a w => opK P C ops k2 o2 K a w) a w) : opK P C ops k2 o2 (fun a w => opK P C ops k1 o1 K a w) a w := by
  by_cases w1 : Region.wanted o1 (yielded ops a.tmps) = true
  · rw [opK_t w1] at h
    obtain ⟨c1, h⟩ := h
    by_cases w2 : Region.wanted o2 (yielded ops a.tmps) = true
    · rw [opK_t w2]
      have h1 := h.trace
      have h2 : opR P C k1 o1 (fun a' w' => Kd.kc C k2 w' ∧ opR P C k2 o2 K a' w') a w := by
        refine h1.mono ?_
        rintro a' w' ⟨⟨v, rfl⟩, _, hh⟩
        rw [opK_t (by rw [t.w12]; exact w2)] at hh
        exact hh
      have c2 : Kd.kc C k2 w := by
        cases k2 with
        | keep =>
          have s1 : k1.still = true := by cases k1 <;> first | rfl | simp [Kd.compat] at hc
          rw [opR_s s1] at h2
          obtain ⟨_, v, _, hh⟩ := h2
          exact hh.1
        | _ => trivial
      refine ⟨c2, ?_⟩
      have h3 := (swap_R t hc c1 (h2.mono fun _ _ hh => hh.2)).trace
      refine h3.mono ?_
      rintro a' w' ⟨⟨u, rfl⟩, hst, hh⟩
      rw [opK_t (by rw [t.w21]; exact w1)]
      refine ⟨?_, hh⟩
      cases k1 with
      | keep =>
        have s2 : k2.still = true := by cases k2 <;> first | rfl | simp [Kd.compat] at hc
        rw [hst s2]
        exact c1
      | _ => trivial
    · rw [opK_f w2, opK_t (by rw [t.w21]; exact w1)]
      refine ⟨c1, opR_put (t.l21 a undef) (fun v w' hh => ?_) h⟩
      rw [opK_f (by rw [t.w12]; exact w2), t.com] at hh
      exact hh
  · rw [opK_f w1] at h
    by_cases w2 : Region.wanted o2 (yielded ops a.tmps) = true
    · rw [opK_t (by rw [t.w12]; exact w2)] at h
      rw [opK_t w2]
      refine ⟨h.1, opR_put (t.l12 a undef).symm (fun v w' hh => ?_) h.2⟩
      rw [opK_f (by rw [t.w21]; exact w1), ← t.com]
      exact hh
    · rw [opK_f (by rw [t.w12]; exact w2)] at h
      rw [opK_f w2, opK_f (by rw [t.w21]; exact w1), ← t.com]
      exact h

/-! ### A row of operations in the text's order -/
def opI (P : Program) (C : World → Prop) (ops : Array Oper) (ks : Nat → Kd) (i : Nat) (K : Act → World → Prop) (a : Act) (w : World) : Prop :=
  match ops[i]? with
  | none => K a w
  | some o => opK P C ops (ks i) o K a w
theorem opI.mono {ks : Nat → Kd} {i : Nat} {K K' : Act → World → Prop} {a : Act} {w : World} (h : ∀ a w, K a w → K' a w) (hh : opI P C ops ks i K a w) : opI P C ops ks i K' a w := by
  unfold opI at *
  split
  · rename_i ho; rw [ho] at hh; exact h _ _ hh
  · rename_i o ho; rw [ho] at hh; exact opK.mono h hh

def wpLex (P : Program) (C : World → Prop) (ops : Array Oper) (ks : Nat → Kd) (Q : Exit → Act → World → Prop) : List Nat → Act → World → Prop
  | [] => fun a w => Q .normal a w
  | i :: r => opI P C ops ks i (wpLex P C ops ks Q r)

def pairB (ops : Array Oper) (ks : Nat → Kd) (k i : Nat) : Bool :=
  match ops[k]?, ops[i]? with
  | some o1, some o2 => o1.apart ops o2 && (ks k).compat (ks i)
  | _, _ => true

variable {ks : Nat → Kd} {Q : Exit → Act → World → Prop}

theorem front {i : Nat} {post : List Nat} (hsel : Region.noSelect ops = true) : ∀ (pre : List Nat), (∀ k ∈ pre, pairB ops ks k i = true) → ∀ (a : Act) (w : World), wpLex P C ops ks Q (pre ++ i :: post) a w →
    opI P C ops ks i (wpLex P C ops ks Q (pre ++ post)) a w
  | [], _, a, w, h => h
  | k :: pre, hp, a, w, h => by
    have ih := front hsel (post := post) pre (fun x hx => hp x (by simp [hx]))
    have h1 : opI P C ops ks k (fun a w => opI P C ops ks i (wpLex P C ops ks Q (pre ++ post)) a w) a w := opI.mono (fun a w hh => ih a w hh) h
    have hpk := hp k (by simp)
    show opI P C ops ks i (opI P C ops ks k (wpLex P C ops ks Q (pre ++ post))) a w
    unfold opI at h1 ⊢
    unfold pairB at hpk
    cases hk : ops[k]? with
    | none =>
      simp only [hk] at h1
      exact h1
    | some o1 =>
      cases hi : ops[i]? with
      | none =>
        simp only [hk, hi] at h1 ⊢
        exact h1
      | some o2 =>
        simp only [hk, hi, Bool.and_eq_true] at h1 hpk ⊢
        exact swap_K (Two.of hpk.1 (Region.noSelect_spec hsel k o1 · · hk) (Region.noSelect_spec hsel i o2 · · hi)) hpk.2 h1

theorem wpOp_of_opI {i : Nat} {K : Act → World → Prop} {a : Act} {w : World} (h : opI P C ops ks i K a w) : wpOp P ops Q i K a w := by
  unfold opI at h
  unfold wpOp
  split
  · rename_i ho; rw [ho] at h; exact h
  · rename_i o ho
    rw [ho] at h
    simp only at h
    unfold opK at h
    split
    · rename_i hw
      rw [if_pos hw] at h
      refine .inl ?_
      obtain ⟨_, h⟩ := h
      cases hk : (ks i).still with
      | true =>
        rw [opR_s hk] at h
        obtain ⟨d, v, r, hk⟩ := h
        unfold Oper.wp
        rw [r w d]
        exact hk
      | false =>
        rw [opR_l hk] at h
        exact Loud.wp (h.mono fun v w' hh => hh.2)
    · rename_i hw
      rw [if_neg hw] at h
      exact h

/-- waits i for k: by an edge, or by two, or by three? -/
def waitsB (ops : Array Oper) : Nat → Nat → Nat → Bool
  | 0, _, _ => false
  | f + 1, i, k => match ops[i]? with
    | some o => o.after.any fun e => Region.binds .any e && (Nat.beq e.on k || waitsB ops f e.on k)
    | none => false
/-- the whole look at a region -/
def lexOk (ops : Array Oper) (ks : Nat → Kd) : Bool :=
  Region.noSelect ops && (List.range ops.size).all fun i =>
    (match ops[i]? with | some o => o.after.all fun e => !Region.binds .any e || Nat.blt e.on i | none => true) &&
    (List.range i).all fun k => pairB ops ks k i || waitsB ops 6 i k

structure LInv (ops : Array Oper) (rem : List Nat) (listed : Array Bool) : Prop where
  size : listed.size = ops.size
  mem : ∀ i, i ∈ rem ↔ (i < ops.size ∧ listed.getD i true = false)
  sorted : rem.Pairwise (· < ·)
  closed : ∀ j o, ops[j]? = some o → listed.getD j false = true → ∀ e ∈ o.after, Region.binds .any e = true → listed.getD e.on false = true

theorem waits_listed {listed : Array Bool} (hc : ∀ j o, ops[j]? = some o → listed.getD j false = true → ∀ e ∈ o.after, Region.binds .any e = true → listed.getD e.on false = true) :
    ∀ (f i k : Nat) (o : Oper), ops[i]? = some o → (∀ e ∈ o.after, Region.binds .any e = true → listed.getD e.on false = true) → waitsB ops f i k = true → listed.getD k false = true
  | 0, _, _, _, _, _, h => by simp [waitsB] at h
  | f + 1, i, k, o, ho, ha, h => by
    unfold waitsB at h
    rw [ho] at h
    simp only at h
    obtain ⟨e, he, hb⟩ := Array.any_eq_true'.1 h
    simp only [Bool.and_eq_true, Bool.or_eq_true] at hb
    have hl := ha e he hb.1
    rcases hb.2 with hb2 | hb2
    · have := Nat.eq_of_beq_eq_true hb2
      rw [← this]
      exact hl
    · cases ho' : ops[e.on]? with
      | none =>
        cases f with
        | zero => simp [waitsB] at hb2
        | succ f => simp [waitsB, ho'] at hb2
      | some o' => exact waits_listed hc f e.on k o' ho' (hc _ _ ho' hl) hb2

theorem getD_tf {listed : Array Bool} {i : Nat} (hi : i < listed.size) : listed.getD i true = listed.getD i false := by simp [hi]

theorem any_of_lex (hok : lexOk ops ks = true) : ∀ (fuel : Nat) (rem : List Nat) (listed : Array Bool) (a : Act) (w : World), rem.length = fuel → LInv ops rem listed → wpLex P C ops ks Q rem a w → wpAny P .any ops Q fuel listed a w := by
  simp only [lexOk, Bool.and_eq_true, List.all_eq_true, List.mem_range] at hok
  obtain ⟨hsel, hok⟩ := hok
  intro fuel
  induction fuel with
  | zero =>
    intro rem listed a w hl inv h
    have hr : rem = [] := List.eq_nil_of_length_eq_zero hl
    subst hr
    refine ⟨?_, h⟩
    rw [List.eq_nil_iff_forall_not_mem]
    intro j hj
    obtain ⟨h1, o, ho, _⟩ := mem_ready.1 hj
    have := (inv.mem j).2 ⟨(Array.getElem?_eq_some_iff.1 ho).1, h1⟩
    simp at this
  | succ fuel ih =>
    intro rem listed a w hl inv h
    refine ⟨fun hnil => ?_, fun i hi => ?_⟩
    · -- the first one that is left is ready
      cases rem with
      | nil => simp at hl
      | cons i rest =>
        have hi := (inv.mem i).1 (by simp)
        have : i ∈ Region.ready .any ops listed := by
          refine mem_ready.2 ⟨hi.2, _, Array.getElem?_eq_getElem hi.1, fun e he hb => ?_⟩
          have h1 := (hok i hi.1).1
          rw [Array.getElem?_eq_getElem hi.1] at h1
          simp only at h1
          have h2 := (Array.all_eq_true_iff_forall_mem.1 h1) e he
          simp only [hb, Bool.not_true, Bool.false_or] at h2
          have hlt : e.on < i := blt_lt h2
          cases hle : listed.getD e.on false with
          | true => rfl
          | false =>
            have hm : e.on ∈ i :: rest := (inv.mem e.on).2 ⟨by omega, by rw [getD_tf (by rw [inv.size]; omega)]; exact hle⟩
            have hs := inv.sorted
            rw [List.pairwise_cons] at hs
            rcases List.mem_cons.1 hm with hm | hm
            · omega
            · have := hs.1 _ hm
              omega
        rw [hnil] at this
        cases this
    · obtain ⟨hun, oi, hoi, hall⟩ := mem_ready.1 hi
      have hilt : i < ops.size := (Array.getElem?_eq_some_iff.1 hoi).1
      have hmem := (inv.mem i).2 ⟨hilt, hun⟩
      obtain ⟨pre, post, rfl⟩ := List.append_of_mem hmem
      have hs := inv.sorted
      rw [List.pairwise_append] at hs
      obtain ⟨hs1, hs2, hs3⟩ := hs
      rw [List.pairwise_cons] at hs2
      have hpre : ∀ k ∈ pre, pairB ops ks k i = true := by
        intro k hk
        have hki : k < i := hs3 k hk i (by simp)
        have hku := (inv.mem k).1 (by simp [hk])
        have h1 := (hok i hilt).2 k hki
        simp only [Bool.or_eq_true] at h1
        rcases h1 with h1 | h1
        · exact h1
        · have h2 := waits_listed inv.closed 6 i k oi hoi hall h1
          rw [← getD_tf (by rw [inv.size]; omega), hku.2] at h2
          cases h2
      have hf := front hsel pre hpre a w h
      refine wpOp_mono (fun a' w' hh => ?_) (wpOp_of_opI (Q := Q) hf)
      refine ih (pre ++ post) (listed.setIfInBounds i true) a' w' (by simp at hl ⊢; omega) ⟨by simp [inv.size], fun j => ?_, ?_, fun j o hj hlj e he hb => ?_⟩ hh
      · have hj := inv.mem j
        have hij : i ∉ pre ++ post := by
          intro hmm
          rcases List.mem_append.1 hmm with hmm | hmm
          · have := hs3 i hmm i (by simp); omega
          · have := hs2.1 i hmm; omega
        by_cases hji : j = i
        · subst hji
          constructor
          · intro hm; exact absurd hm hij
          · rintro ⟨_, hm⟩
            have : j < listed.size := by rw [inv.size]; exact hilt
            simp [this] at hm
        · have e1 : (listed.setIfInBounds i true).getD j true = listed.getD j true := getD_set_ne true (fun e => hji e.symm)
          rw [e1, ← hj]
          simp [hji]
      · rw [List.pairwise_append]
        exact ⟨hs1, hs2.2, fun x hx y hy => hs3 x hx y (by simp [hy])⟩
      · by_cases hji : i = j
        · subst hji
          have : o = oi := Option.some.inj (hj.symm.trans hoi)
          subst this
          exact getD_set_true (hall e he hb)
        · rw [getD_set_ne false hji] at hlj
          exact getD_set_true (inv.closed j o hj hlj e he hb)

theorem wp_region_lex {id : Nat} {a : Act} {w : World} (hm : P.follows .mixedOrders = true) (hok : lexOk ops ks = true) (h : wpLex P C ops ks Q (List.range ops.size) a { w with drawn := w.drawn + 1 }) : (Code.region id ops true).wp P Q a w := by
  refine wp_region_any hm (any_of_lex hok _ (List.range ops.size) _ a _ (by simp) ⟨by simp, fun i => ?_, List.pairwise_lt_range, fun j o hj hl => ?_⟩ h)
  · rw [List.mem_range]
    constructor
    · intro hi; exact ⟨hi, by simp [hi]⟩
    · exact fun hi => hi.1
  · rw [getD_replicate_false] at hl
    exact absurd hl (by simp)

/-- the same, over the operations themselves -/
def wpLexL (P : Program) (C : World → Prop) (ops : Array Oper) (ks : Nat → Kd) (Q : Exit → Act → World → Prop) : Nat → List Oper → Act → World → Prop
  | _, [] => fun a w => Q .normal a w
  | i, o :: r => opK P C ops (ks i) o (wpLexL P C ops ks Q (i + 1) r)
theorem wpLexL_eq : ∀ (l : List Oper) (i : Nat), (∀ j, l[j]? = ops[i + j]?) → wpLexL P C ops ks Q i l = wpLex P C ops ks Q (List.range' i l.length)
  | [], i, _ => rfl
  | o :: l, i, h => by
    have h0 : ops[i]? = some o := by simpa using (h 0).symm
    have ih := wpLexL_eq l (i + 1) (fun j => by have := h (j + 1); simpa [Nat.add_assoc, Nat.add_comm 1 j] using this)
    funext a w
    simp only [wpLexL, List.length_cons, List.range'_succ, wpLex, opI, h0, ih]

/-- kinds by the operation's form -/
def kdOf (o : Oper) : Kd :=
  match o.op with
  | .move _ | .assign _ | .pick .. | .fieldAddr .. | .field .. | .indexAddr .. | .index .. | .extract .. | .build .. | .binOp .. | .unOp .. | .convert .. | .nilCheck _ | .slice .. => .pure
  | .load .. => .quiet
  | .box .. | .alloc .. | .buildSlice .. | .makeSlice .. => .keep
  | .call c => match c.callee with
    | .builtin .len | .builtin .min | .builtin .max | .builtin .cap => .pure
    | .builtin _ => .loud
    | _ => .keep
  | _ => .loud
/-- kinds of a region's operations, with some set by hand -/
def kds (l : List Oper) (ovr : List (Nat × Kd)) (i : Nat) : Kd :=
  match ovr.lookup i with
  | some k => k
  | none => match l[i]? with
    | some o => kdOf o
    | none => .loud

/-- the judgment: from operation i on -/
structure TL (P : Program) (C : World → Prop) (ops : Array Oper) (ks : Nat → Kd) (Q : Exit → Act → World → Prop) (i : Nat) (rest : List Oper) (n : FD) (s : Sg) (M : World → Prop) : Prop where
  go : ∀ a w, Fr n s a → M w → wpLexL P C ops ks Q i rest a w
end
section
variable {P : Program} {C : World → Prop} {ops : Array Oper} {ks : Nat → Kd} {Q : Exit → Act → World → Prop} {i : Nat} {rest : List Oper} {n : FD} {s : Sg} {M : World → Prop}
  {op : Op} {ty : TypeId} {pos : String} {af : Array Edge} {d : Nat} {v : Value} {w0 : World} {L : List HP}

theorem TC.lex {id : Nat} {l : List Oper} (ovr : List (Nat × Kd)) (hm : P.follows .mixedOrders = true) (hok : lexOk l.toArray (kds l ovr) = true) (k : TL P (St w0 L) l.toArray (kds l ovr) Q 0 l n s (St w0 L)) : TC P (.region id l.toArray true) Q n s (St w0 L) := by
  refine ⟨fun a w hf hw => wp_region_lex (C := St w0 L) hm hok ?_⟩
  have := k.go a w.drew hf hw.drew
  rw [wpLexL_eq l 0 (by simp)] at this
  rw [List.range_eq_range']
  simpa using this
theorem TL.nil (k : TX Q .normal n s M) : TL P C ops ks Q i [] n s M := ⟨fun a w hf hm => k.go a w hf hm⟩
theorem TL.pure_ (hd : Nat.blt d n.sz = true) (hk : ks i = .pure) (h : Ev P n s (fun _ => True) op ty v) (k : TL P C ops ks Q (i + 1) rest n ((d, v) :: s) M) : TL P C ops ks Q i (⟨some d, op, ty, pos, af, none⟩ :: rest) n s M := by
  refine ⟨fun a w hf hm => ?_⟩
  show opK P C ops (ks i) _ _ a w
  rw [opK_t (by simp [Region.wanted]), hk, opR_s rfl]
  exact ⟨trivial, trivial, v, fun w' _ => h.go a w' _ rfl rfl hf trivial, k.go _ _ (hf.put hd v) hm⟩
theorem TL.quiet (hd : Nat.blt d n.sz = true) (hk : ks i = .quiet) (hC : ∀ w, M w → C w) (h : Ev P n s C op ty v) (k : TL P C ops ks Q (i + 1) rest n ((d, v) :: s) M) : TL P C ops ks Q i (⟨some d, op, ty, pos, af, none⟩ :: rest) n s M := by
  refine ⟨fun a w hf hm => ?_⟩
  show opK P C ops (ks i) _ _ a w
  rw [opK_t (by simp [Region.wanted]), hk, opR_s rfl]
  exact ⟨trivial, hC w hm, v, fun w' hw' => h.go a w' _ rfl rfl hf hw', k.go _ _ (hf.put hd v) hm⟩
theorem TL.here (hd : Nat.blt d n.sz = true) (hk : ks i = .here) (h : Ev P n s M op ty v) (k : TL P C ops ks Q (i + 1) rest n ((d, v) :: s) M) : TL P C ops ks Q i (⟨some d, op, ty, pos, af, none⟩ :: rest) n s M := by
  refine ⟨fun a w hf hm => ?_⟩
  show opK P C ops (ks i) _ _ a w
  rw [opK_t (by simp [Region.wanted]), hk, opR_s rfl]
  exact ⟨trivial, rfl, v, fun w' hw' => by subst hw'; exact h.go a _ _ rfl rfl hf hm, k.go _ _ (hf.put hd v) hm⟩
theorem Loud.of_ac {ι : Sort _} {val : ι → Value} {M' : ι → World → Prop} {F : Value → World → Prop} {a : Act} {w : World} {o : Oper} (h : Ac P n s M op ty val M') (ho : o.op = op) (ht : o.type = ty) (hf : Fr n s a) (hm : M w)
    (k : ∀ x w', M' x w' → F (val x) w') : Loud P o a w F := by
  obtain ⟨x, w', hr, hm'⟩ := h.go a w o ho ht hf hm
  unfold Loud
  rw [hr]
  exact k x w' hm'
theorem Loud.of_cl {ι : Sort _} {val : ι → Value} {M' : ι → World → Prop} {F : Value → World → Prop} {a : Act} {w : World} {o : Oper} (h : Cl P n s M op ty val M') (ho : o.op = op) (ht : o.type = ty) (hf : Fr n s a) (hm : M w)
    (k : ∀ x w', M' x w' → F (val x) w') : Loud P o a w F := by
  obtain ⟨f, args, hop, hc⟩ := h.go
  unfold Loud
  rw [hop a w o ho ht hf hm]
  refine (hc w hm).mono ?_
  rintro e w' ⟨x, he, hm'⟩
  exact ⟨_, he, k x w' hm'⟩
theorem Loud.of_acN {ι : Sort _} {M' : ι → World → Prop} {F : Value → World → Prop} {a : Act} {w : World} {o : Oper} (h : AcN P n s M op ty M') (ho : o.op = op) (ht : o.type = ty) (hf : Fr n s a) (hm : M w)
    (k : ∀ x w' v, M' x w' → F v w') : Loud P o a w F := by
  obtain ⟨x, w', hr, hm'⟩ := h.go a w o ho ht hf hm
  unfold Loud
  rcases hr with hr | ⟨u, hr⟩ <;> rw [hr] <;> exact k x w' _ hm'

theorem TL.keep {ι : Sort _} {val : ι → Value} {M' : ι → World → Prop} (hd : Nat.blt d n.sz = true) (hk : ks i = .keep) (hC : ∀ w, M w → C w) (h : Ac P n s M op ty val M') (hC' : ∀ x w, M' x w → C w)
    (k : ∀ x, TL P C ops ks Q (i + 1) rest n ((d, val x) :: s) (M' x)) : TL P C ops ks Q i (⟨some d, op, ty, pos, af, none⟩ :: rest) n s M := by
  refine ⟨fun a w hf hm => ?_⟩
  show opK P C ops (ks i) _ _ a w
  rw [opK_t (by simp [Region.wanted]), hk, opR_l rfl]
  exact ⟨hC w hm, Loud.of_ac h rfl rfl hf hm fun x w' hm' => ⟨hC' x w' hm', (k x).go _ _ (hf.put hd _) hm'⟩⟩
theorem TL.kcall {ι : Sort _} {val : ι → Value} {M' : ι → World → Prop} (hd : Nat.blt d n.sz = true) (hk : ks i = .keep) (hC : ∀ w, M w → C w) (h : Cl P n s M op ty val M') (hC' : ∀ x w, M' x w → C w)
    (k : ∀ x, TL P C ops ks Q (i + 1) rest n ((d, val x) :: s) (M' x)) : TL P C ops ks Q i (⟨some d, op, ty, pos, af, none⟩ :: rest) n s M := by
  refine ⟨fun a w hf hm => ?_⟩
  show opK P C ops (ks i) _ _ a w
  rw [opK_t (by simp [Region.wanted]), hk, opR_l rfl]
  exact ⟨hC w hm, Loud.of_cl h rfl rfl hf hm fun x w' hm' => ⟨hC' x w' hm', (k x).go _ _ (hf.put hd _) hm'⟩⟩
theorem TL.loud {ι : Sort _} {val : ι → Value} {M' : ι → World → Prop} (hd : Nat.blt d n.sz = true) (hk : ks i = .loud) (h : Ac P n s M op ty val M')
    (k : ∀ x, TL P C ops ks Q (i + 1) rest n ((d, val x) :: s) (M' x)) : TL P C ops ks Q i (⟨some d, op, ty, pos, af, none⟩ :: rest) n s M := by
  refine ⟨fun a w hf hm => ?_⟩
  show opK P C ops (ks i) _ _ a w
  rw [opK_t (by simp [Region.wanted]), hk, opR_l rfl]
  exact ⟨trivial, Loud.of_ac h rfl rfl hf hm fun x w' hm' => ⟨trivial, (k x).go _ _ (hf.put hd _) hm'⟩⟩
theorem TL.lcall {ι : Sort _} {val : ι → Value} {M' : ι → World → Prop} (hd : Nat.blt d n.sz = true) (hk : ks i = .loud) (h : Cl P n s M op ty val M')
    (k : ∀ x, TL P C ops ks Q (i + 1) rest n ((d, val x) :: s) (M' x)) : TL P C ops ks Q i (⟨some d, op, ty, pos, af, none⟩ :: rest) n s M := by
  refine ⟨fun a w hf hm => ?_⟩
  show opK P C ops (ks i) _ _ a w
  rw [opK_t (by simp [Region.wanted]), hk, opR_l rfl]
  exact ⟨trivial, Loud.of_cl h rfl rfl hf hm fun x w' hm' => ⟨trivial, (k x).go _ _ (hf.put hd _) hm'⟩⟩
theorem TL.loudN {ι : Sort _} {M' : ι → World → Prop} (hk : ks i = .loud) (h : AcN P n s M op ty M')
    (k : ∀ x, TL P C ops ks Q (i + 1) rest n s (M' x)) : TL P C ops ks Q i (⟨none, op, ty, pos, af, none⟩ :: rest) n s M := by
  refine ⟨fun a w hf hm => ?_⟩
  show opK P C ops (ks i) _ _ a w
  rw [opK_t (by simp [Region.wanted]), hk, opR_l rfl]
  exact ⟨trivial, Loud.of_acN h rfl rfl hf hm fun x w' v hm' => ⟨trivial, (k x).go _ _ hf hm'⟩⟩
theorem TL.guard_yes {dst : Option Nat} {j dj : Nat} {want b : Bool} (hj : gd ops j = some dj) (hn : Nat.blt dj n.sz = true) (hb : lk s dj = some (.bool b)) (hw : b = want)
    (k : TL P C ops ks Q i (⟨dst, op, ty, pos, af, none⟩ :: rest) n s M) : TL P C ops ks Q i (⟨dst, op, ty, pos, af, some (j, want)⟩ :: rest) n s M := by
  refine ⟨fun a w hf hm => ?_⟩
  have := k.go a w hf hm
  have h1 : opK P C ops (ks i) ⟨dst, op, ty, pos, af, none⟩ (wpLexL P C ops ks Q (i + 1) rest) a w := this
  rw [opK_t (by simp [Region.wanted])] at h1
  show opK P C ops (ks i) _ _ a w
  rw [opK_t (by simp only [Region.wanted, yielded_of hj hf hb hn, hw]; simp)]
  exact ⟨h1.1, h1.2⟩
theorem TL.guard_no {j dj : Nat} {want b : Bool} (hd : Nat.blt d n.sz = true) (hj : gd ops j = some dj) (hn : Nat.blt dj n.sz = true) (hb : lk s dj = some (.bool b)) (hw : b = !want)
    (k : TL P C ops ks Q (i + 1) rest n ((d, undef) :: s) M) : TL P C ops ks Q i (⟨some d, op, ty, pos, af, some (j, want)⟩ :: rest) n s M := by
  refine ⟨fun a w hf hm => ?_⟩
  show opK P C ops (ks i) _ _ a w
  rw [opK_f (by simp only [Region.wanted, yielded_of hj hf hb hn, hw]; cases want <;> simp)]
  exact k.go _ _ (hf.put hd undef) hm
theorem TL.guard_undef {j dj : Nat} {want : Bool} (hd : Nat.blt d n.sz = true) (hj : gd ops j = some dj) (hn : Nat.blt dj n.sz = true) (hb : lk s dj = some undef)
    (k : TL P C ops ks Q (i + 1) rest n ((d, undef) :: s) M) : TL P C ops ks Q i (⟨some d, op, ty, pos, af, some (j, want)⟩ :: rest) n s M := by
  refine ⟨fun a w hf hm => ?_⟩
  show opK P C ops (ks i) _ _ a w
  rw [opK_f (by simp only [Region.wanted, yielded_of hj hf hb hn, undef]; simp)]
  exact k.go _ _ (hf.put hd undef) hm
theorem TL.guard_split {j dj : Nat} {want b : Bool} (hd : Nat.blt d n.sz = true) (hj : gd ops j = some dj) (hn : Nat.blt dj n.sz = true) (hb : lk s dj = some (.bool b))
    (k1 : b = want → TL P C ops ks Q i (⟨some d, op, ty, pos, af, none⟩ :: rest) n s M) (k2 : b = (!want) → TL P C ops ks Q (i + 1) rest n ((d, undef) :: s) M) : TL P C ops ks Q i (⟨some d, op, ty, pos, af, some (j, want)⟩ :: rest) n s M := by
  by_cases h : b = want
  · exact TL.guard_yes hj hn hb h (k1 h)
  · have h' : b = !want := by cases b <;> cases want <;> simp_all
    exact TL.guard_no hd hj hn hb h' (k2 h')
theorem TL.guard_split_t {j dj : Nat} {b : Bool} (hd : Nat.blt d n.sz = true) (hj : gd ops j = some dj) (hn : Nat.blt dj n.sz = true) (hb : lk s dj = some (.bool b))
    (k1 : b = true → TL P C ops ks Q i (⟨some d, op, ty, pos, af, none⟩ :: rest) n s M) (k2 : b = false → TL P C ops ks Q (i + 1) rest n ((d, undef) :: s) M) : TL P C ops ks Q i (⟨some d, op, ty, pos, af, some (j, true)⟩ :: rest) n s M := TL.guard_split hd hj hn hb k1 k2
theorem TL.guard_split_f {j dj : Nat} {b : Bool} (hd : Nat.blt d n.sz = true) (hj : gd ops j = some dj) (hn : Nat.blt dj n.sz = true) (hb : lk s dj = some (.bool b))
    (k1 : b = false → TL P C ops ks Q i (⟨some d, op, ty, pos, af, none⟩ :: rest) n s M) (k2 : b = true → TL P C ops ks Q (i + 1) rest n ((d, undef) :: s) M) : TL P C ops ks Q i (⟨some d, op, ty, pos, af, some (j, false)⟩ :: rest) n s M := TL.guard_split hd hj hn hb k1 k2
end
end Go.Sl
