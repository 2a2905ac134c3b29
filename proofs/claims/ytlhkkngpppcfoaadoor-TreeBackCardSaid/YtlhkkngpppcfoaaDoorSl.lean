/-
  A small separation logic over the walk's own rules: frames as lists of slots, memory as a list of owned pieces. No program in sight.
-/
import Derived.WalkKit
import Derived.Deep.Quiet
set_option linter.all false
namespace Go.Sl
open Go.RowKit

/-! ### Slots -/
abbrev Sg := List (Nat × Value)

def lk : Sg → Nat → Option Value
  | [], _ => none
  | (k, v) :: s, i => bif Nat.beq k i then some v else lk s i

/-- a frame: how many slots, what is deferred -/
structure FD where
  sz : Nat
  ds : List Deferred
structure Fr (n : FD) (s : Sg) (a : Act) : Prop where
  size : a.tmps.size = n.sz
  defers : a.defers = n.ds
  get : ∀ i v, lk s i = some v → a.tmps.getD i undef = v

theorem blt_lt {d n : Nat} (h : Nat.blt d n = true) : d < n := Eq.mp Nat.blt_eq h

theorem Fr.put {n : FD} {s : Sg} {a : Act} {d : Nat} (h : Fr n s a) (hd : Nat.blt d n.sz = true) (v : Value) : Fr n ((d, v) :: s) (a.put (some d) v) := by
  have hd' : d < a.tmps.size := by rw [h.size]; exact blt_lt hd
  refine ⟨by simp [Act.put, h.size], by simpa [Act.put] using h.defers, fun i u hi => ?_⟩
  simp only [lk, cond_eq_ite] at hi
  by_cases hdi : d = i
  · subst hdi
    simp at hi
    subst hi
    simp [Act.put, hd']
  · have hb : Nat.beq d i = false := by
      cases hb : Nat.beq d i with
      | false => rfl
      | true => exact absurd (Nat.eq_of_beq_eq_true hb) hdi
    rw [hb] at hi
    simp at hi
    have := h.get i u hi
    rw [← this]
    simp [Act.put, hdi]

theorem Fr.putN {n : FD} {s : Sg} {a : Act} (h : Fr n s a) (v : Value) : Fr n s (a.put none v) := h

def ev (s : Sg) : Operand → Option Value
  | .tmp t => lk s t
  | .const v => some v
  | .global g => some (.pointer (some ⟨g, 0, none⟩))
  | .func f => some (.func (.func f) #[] #[])

theorem Fr.ev {n : FD} {s : Sg} {a : Act} {x : Operand} {v : Value} (h : Fr n s a) (hx : ev s x = some v) : a.eval x = v := by
  cases x with
  | tmp t => exact h.get t v hx
  | const c => simpa [Sl.ev, Act.eval] using hx
  | global g => simpa [Sl.ev, Act.eval] using hx
  | func f => simpa [Sl.ev, Act.eval] using hx

/-- every slot of s' reads the same in s -/
def Sub : Sg → Sg → Prop
  | [], _ => True
  | p :: s', s => lk s p.1 = some p.2 ∧ Sub s' s

theorem Fr.sub {n : FD} {s : Sg} {a : Act} (h : Fr n s a) : ∀ {s' : Sg}, Sub s' s → Fr n s' a
  | [], _ => ⟨h.size, h.defers, fun i v hi => by simp [lk] at hi⟩
  | p :: s', hs => by
    refine ⟨h.size, h.defers, fun i v hi => ?_⟩
    simp only [lk] at hi
    cases hb : Nat.beq p.1 i with
    | true =>
      rw [hb] at hi
      simp at hi
      have : p.1 = i := Nat.eq_of_beq_eq_true hb
      subst this
      subst hi
      exact h.get _ _ hs.1
    | false =>
      rw [hb] at hi
      simp at hi
      exact (h.sub hs.2).get i v hi

/-! ### Judgments -/
structure T (P : Program) (ops : Array Oper) (Q : Exit → Act → World → Prop) (rest : List Oper) (n : FD) (s : Sg) (M : World → Prop) : Prop where
  go : ∀ a w, Fr n s a → M w → wpList P ops Q rest a w

structure TC (P : Program) (c : Code) (Q : Exit → Act → World → Prop) (n : FD) (s : Sg) (M : World → Prop) : Prop where
  go : ∀ a w, Fr n s a → M w → c.wp P Q a w

/-- what is left to show at an end of a piece of code -/
structure TX (Q : Exit → Act → World → Prop) (e : Exit) (n : FD) (s : Sg) (M : World → Prop) : Prop where
  go : ∀ a w, Fr n s a → M w → Q e a w

/-- what an operation yields, the world untouched -/
structure Ev (P : Program) (n : FD) (s : Sg) (M : World → Prop) (op : Op) (ty : TypeId) (v : Value) : Prop where
  go : ∀ a w (o : Oper), o.op = op → o.type = ty → Fr n s a → M w → (execOp a.eval o).run P w = .ok (.value v) w

section
variable {P : Program} {ops : Array Oper} {Q : Exit → Act → World → Prop} {rest : List Oper} {n : FD} {s : Sg} {M : World → Prop}
  {op : Op} {ty : TypeId} {pos : String} {af : Array Edge} {d j : Nat} {v : Value}

theorem T.mono {s' : Sg} {M' : World → Prop} (hs : Sub s' s) (hM : ∀ w, M w → M' w) (k : T P ops Q rest n s' M') : T P ops Q rest n s M :=
  ⟨fun a w hf hm => k.go a w (hf.sub hs) (hM w hm)⟩
theorem TC.mono {c : Code} {s' : Sg} {M' : World → Prop} (hs : Sub s' s) (hM : ∀ w, M w → M' w) (k : TC P c Q n s' M') : TC P c Q n s M :=
  ⟨fun a w hf hm => k.go a w (hf.sub hs) (hM w hm)⟩
theorem T.mem {M' : World → Prop} (hM : ∀ w, M w → M' w) (k : T P ops Q rest n s M') : T P ops Q rest n s M :=
  ⟨fun a w hf hm => k.go a w hf (hM w hm)⟩
theorem TC.mem {c : Code} {M' : World → Prop} (hM : ∀ w, M w → M' w) (k : TC P c Q n s M') : TC P c Q n s M :=
  ⟨fun a w hf hm => k.go a w hf (hM w hm)⟩
theorem T.pure_ {p : Prop} (hM : ∀ w, M w → p) (k : p → T P ops Q rest n s M) : T P ops Q rest n s M :=
  ⟨fun a w hf hm => (k (hM w hm)).go a w hf hm⟩
theorem TC.pure_ {c : Code} {p : Prop} (hM : ∀ w, M w → p) (k : p → TC P c Q n s M) : TC P c Q n s M :=
  ⟨fun a w hf hm => (k (hM w hm)).go a w hf hm⟩
theorem TC.ex {c : Code} {ι : Sort _} {M' : ι → World → Prop} (hM : ∀ w, M w → ∃ x, M' x w) (k : ∀ x, TC P c Q n s (M' x)) : TC P c Q n s M :=
  ⟨fun a w hf hm => let ⟨x, hx⟩ := hM w hm; (k x).go a w hf hx⟩
theorem T.ex {ι : Sort _} {M' : ι → World → Prop} (hM : ∀ w, M w → ∃ x, M' x w) (k : ∀ x, T P ops Q rest n s (M' x)) : T P ops Q rest n s M :=
  ⟨fun a w hf hm => let ⟨x, hx⟩ := hM w hm; (k x).go a w hf hx⟩

theorem T.nil (k : TX Q .normal n s M) : T P ops Q [] n s M := ⟨fun a w hf hm => k.go a w hf hm⟩

theorem T.ev_ (hd : Nat.blt d n.sz = true) (h : Ev P n s M op ty v) (k : T P ops Q rest n ((d, v) :: s) M) :
    T P ops Q (⟨some d, op, ty, pos, af, none⟩ :: rest) n s M := by
  refine ⟨fun a w hf hm => ?_⟩
  refine wpList_plain rfl fun K hK => ?_
  unfold Oper.wp
  rw [h.go a w ⟨some d, op, ty, pos, af, none⟩ rfl rfl hf hm]
  exact hK _ _ (k.go _ _ (hf.put hd v) hm)

theorem T.evN (h : Ev P n s M op ty v) (k : T P ops Q rest n s M) :
    T P ops Q (⟨none, op, ty, pos, af, none⟩ :: rest) n s M := by
  refine ⟨fun a w hf hm => ?_⟩
  refine wpList_plain rfl fun K hK => ?_
  unfold Oper.wp
  rw [h.go a w ⟨none, op, ty, pos, af, none⟩ rfl rfl hf hm]
  exact hK _ _ (k.go _ _ hf hm)

/-- an operation that turns the world: what it yields, and what holds behind it -/
structure Ac (P : Program) (n : FD) (s : Sg) (M : World → Prop) (op : Op) (ty : TypeId) {ι : Sort _} (val : ι → Value) (M' : ι → World → Prop) : Prop where
  go : ∀ a w (o : Oper), o.op = op → o.type = ty → Fr n s a → M w → ∃ x w', (execOp a.eval o).run P w = .ok (.value (val x)) w' ∧ M' x w'
structure AcN (P : Program) (n : FD) (s : Sg) (M : World → Prop) (op : Op) (ty : TypeId) {ι : Sort _} (M' : ι → World → Prop) : Prop where
  go : ∀ a w (o : Oper), o.op = op → o.type = ty → Fr n s a → M w → ∃ x w', ((execOp a.eval o).run P w = .ok .skip w' ∨ ∃ u, (execOp a.eval o).run P w = .ok (.value u) w') ∧ M' x w'
/-- a call of a Go function -/
structure Cl (P : Program) (n : FD) (s : Sg) (M : World → Prop) (op : Op) (ty : TypeId) {ι : Sort _} (val : ι → Value) (M' : ι → World → Prop) : Prop where
  go : ∃ f args, (∀ a w (o : Oper), o.op = op → o.type = ty → Fr n s a → M w → (execOp a.eval o).run P w = .ok (.enter f args) w) ∧
    ∀ w, M w → Calls P f args w fun e w' => ∃ x, e = .returned (val x) ∧ M' x w'

theorem T.act {ι : Sort _} {val : ι → Value} {M' : ι → World → Prop} (hd : Nat.blt d n.sz = true) (h : Ac P n s M op ty val M')
    (k : ∀ x, T P ops Q rest n ((d, val x) :: s) (M' x)) : T P ops Q (⟨some d, op, ty, pos, af, none⟩ :: rest) n s M := by
  refine ⟨fun a w hf hm => ?_⟩
  obtain ⟨x, w', hr, hm'⟩ := h.go a w ⟨some d, op, ty, pos, af, none⟩ rfl rfl hf hm
  refine wpList_plain rfl fun K hK => ?_
  unfold Oper.wp
  rw [hr]
  exact hK _ _ ((k x).go _ _ (hf.put hd _) hm')

theorem T.actN {ι : Sort _} {M' : ι → World → Prop} (h : AcN P n s M op ty M')
    (k : ∀ x, T P ops Q rest n s (M' x)) : T P ops Q (⟨none, op, ty, pos, af, none⟩ :: rest) n s M := by
  refine ⟨fun a w hf hm => ?_⟩
  obtain ⟨x, w', hr, hm'⟩ := h.go a w ⟨none, op, ty, pos, af, none⟩ rfl rfl hf hm
  refine wpList_plain rfl fun K hK => ?_
  unfold Oper.wp
  rcases hr with hr | ⟨u, hr⟩ <;> rw [hr] <;> exact hK _ _ ((k x).go _ _ hf hm')

theorem T.cl {ι : Sort _} {val : ι → Value} {M' : ι → World → Prop} (hd : Nat.blt d n.sz = true) (h : Cl P n s M op ty val M')
    (k : ∀ x, T P ops Q rest n ((d, val x) :: s) (M' x)) : T P ops Q (⟨some d, op, ty, pos, af, none⟩ :: rest) n s M := by
  refine ⟨fun a w hf hm => ?_⟩
  obtain ⟨f, args, hop, hc⟩ := h.go
  refine wpList_plain rfl fun K hK => ?_
  unfold Oper.wp
  rw [hop a w ⟨some d, op, ty, pos, af, none⟩ rfl rfl hf hm]
  simp only [Oper.upon]
  refine (hc w hm).mono ?_
  rintro e w' ⟨x, rfl, hm'⟩
  exact hK _ _ ((k x).go _ _ (hf.put hd _) hm')

theorem wpList_guard_yes {o : Oper} {a : Act} {w : World} (hw : Region.wanted o (yielded ops a.tmps) = true)
    (h : wpList P ops Q ({ o with guard := none } :: rest) a w) : wpList P ops Q (o :: rest) a w := by
  unfold wpList at h ⊢
  rw [if_pos hw]
  rw [if_pos (by simp [Region.wanted])] at h
  exact h

def gd (ops : Array Oper) (j : Nat) : Option Nat := (ops[j]?).bind (·.dst)

theorem yielded_of {a : Act} {dj : Nat} (hj : gd ops j = some dj) (hf : Fr n s a) {u : Value} (hb : lk s dj = some u) (hn : Nat.blt dj n.sz = true) :
    yielded ops a.tmps j = (match u with | .bool b => some b | _ => none) := by
  have h1 := hf.get dj u hb
  have hlt : dj < a.tmps.size := by rw [hf.size]; exact blt_lt hn
  have h2 : a.tmps[dj]? = some u := by
    rw [← h1]; simp [hlt]
  unfold yielded
  unfold gd at hj
  rw [hj]
  simp only [Option.bind_some, h2]
  cases u <;> rfl

theorem T.guard_yes {dst : Option Nat} {dj : Nat} {want b : Bool} (hj : gd ops j = some dj) (hn : Nat.blt dj n.sz = true) (hb : lk s dj = some (.bool b)) (hw : b = want)
    (k : T P ops Q (⟨dst, op, ty, pos, af, none⟩ :: rest) n s M) : T P ops Q (⟨dst, op, ty, pos, af, some (j, want)⟩ :: rest) n s M := by
  refine ⟨fun a w hf hm => ?_⟩
  refine wpList_guard_yes ?_ (k.go a w hf hm)
  simp only [Region.wanted, yielded_of hj hf hb hn, hw]
  simp

theorem T.guard_no {dj : Nat} {want b : Bool} (hd : Nat.blt d n.sz = true) (hj : gd ops j = some dj) (hn : Nat.blt dj n.sz = true) (hb : lk s dj = some (.bool b)) (hw : b = !want)
    (k : T P ops Q rest n ((d, undef) :: s) M) : T P ops Q (⟨some d, op, ty, pos, af, some (j, want)⟩ :: rest) n s M := by
  refine ⟨fun a w hf hm => ?_⟩
  unfold wpList
  rw [if_neg (by simp only [Region.wanted, yielded_of hj hf hb hn, hw]; cases want <;> simp)]
  exact k.go _ _ (hf.put hd undef) hm

theorem T.guard_undef {dj : Nat} {want : Bool} (hd : Nat.blt d n.sz = true) (hj : gd ops j = some dj) (hn : Nat.blt dj n.sz = true) (hb : lk s dj = some undef)
    (k : T P ops Q rest n ((d, undef) :: s) M) : T P ops Q (⟨some d, op, ty, pos, af, some (j, want)⟩ :: rest) n s M := by
  refine ⟨fun a w hf hm => ?_⟩
  unfold wpList
  rw [if_neg (by simp only [Region.wanted, yielded_of hj hf hb hn, undef]; simp)]
  exact k.go _ _ (hf.put hd undef) hm

theorem T.guard_split {dj : Nat} {want b : Bool} (hd : Nat.blt d n.sz = true) (hj : gd ops j = some dj) (hn : Nat.blt dj n.sz = true) (hb : lk s dj = some (.bool b))
    (k1 : b = want → T P ops Q (⟨some d, op, ty, pos, af, none⟩ :: rest) n s M)
    (k2 : b = (!want) → T P ops Q rest n ((d, undef) :: s) M) : T P ops Q (⟨some d, op, ty, pos, af, some (j, want)⟩ :: rest) n s M := by
  by_cases h : b = want
  · exact T.guard_yes hj hn hb h (k1 h)
  · have h' : b = !want := by cases b <;> cases want <;> simp_all
    exact T.guard_no hd hj hn hb h' (k2 h')

theorem T.guard_split_t {dj : Nat} {b : Bool} (hd : Nat.blt d n.sz = true) (hj : gd ops j = some dj) (hn : Nat.blt dj n.sz = true) (hb : lk s dj = some (.bool b))
    (k1 : b = true → T P ops Q (⟨some d, op, ty, pos, af, none⟩ :: rest) n s M)
    (k2 : b = false → T P ops Q rest n ((d, undef) :: s) M) : T P ops Q (⟨some d, op, ty, pos, af, some (j, true)⟩ :: rest) n s M := T.guard_split hd hj hn hb k1 k2
theorem T.guard_split_f {dj : Nat} {b : Bool} (hd : Nat.blt d n.sz = true) (hj : gd ops j = some dj) (hn : Nat.blt dj n.sz = true) (hb : lk s dj = some (.bool b))
    (k1 : b = false → T P ops Q (⟨some d, op, ty, pos, af, none⟩ :: rest) n s M)
    (k2 : b = true → T P ops Q rest n ((d, undef) :: s) M) : T P ops Q (⟨some d, op, ty, pos, af, some (j, false)⟩ :: rest) n s M := T.guard_split hd hj hn hb k1 k2

/-! ### Code -/
variable {c c1 c2 : Code} {id : Nat}
theorem TC.seq (k : TC P c1 (Exit.then (c2.wp P Q) Q) n s M) : TC P (.seq c1 c2) Q n s M := ⟨fun a w hf hm => wp_seq (k.go a w hf hm)⟩
theorem TC.block (k : TC P c (Exit.inBlock id Q) n s M) : TC P (.block id c) Q n s M := ⟨fun a w hf hm => wp_block (k.go a w hf hm)⟩
theorem TC.region {l : List Oper} (k : T P l.toArray Q l n s M) : TC P (.region id l.toArray false) Q n s M := ⟨fun a w hf hm => wp_region_lit (k.go a w hf hm)⟩
theorem TC.skip (k : TX Q .normal n s M) : TC P .skip Q n s M := ⟨fun a w hf hm => wp_skip (k.go a w hf hm)⟩
theorem TC.exit (k : TX Q (.exit id) n s M) : TC P (.exit id) Q n s M := ⟨fun a w hf hm => wp_exit (k.go a w hf hm)⟩
theorem TC.ret (k : TX Q .ret n s M) : TC P .ret Q n s M := ⟨fun a w hf hm => wp_ret (k.go a w hf hm)⟩
theorem TC.cond_t {x : Operand} {b : Bool} (hx : ev s x = some (.bool b)) (hb : b = true) (k : TC P c1 Q n s M) : TC P (.cond x c1 c2) Q n s M :=
  ⟨fun a w hf hm => wp_cond_true (by rw [hf.ev hx, hb]) (k.go a w hf hm)⟩
theorem TC.cond_f {x : Operand} {b : Bool} (hx : ev s x = some (.bool b)) (hb : b = false) (k : TC P c2 Q n s M) : TC P (.cond x c1 c2) Q n s M :=
  ⟨fun a w hf hm => wp_cond_false (by rw [hf.ev hx, hb]) (k.go a w hf hm)⟩
theorem TC.cond {x : Operand} {b : Bool} (hx : ev s x = some (.bool b)) (k1 : b = true → TC P c1 Q n s M) (k2 : b = false → TC P c2 Q n s M) : TC P (.cond x c1 c2) Q n s M := by
  cases b with
  | true => exact TC.cond_t hx rfl (k1 rfl)
  | false => exact TC.cond_f hx rfl (k2 rfl)

theorem TX.then_normal (k : TC P c2 Q n s M) {Q' : Exit → Act → World → Prop} : TX (Exit.then (c2.wp P Q) Q') .normal n s M := ⟨fun a w hf hm => k.go a w hf hm⟩
theorem TX.then_exit {K : Act → World → Prop} (k : TX Q (.exit id) n s M) : TX (Exit.then K Q) (.exit id) n s M := ⟨fun a w hf hm => k.go a w hf hm⟩
theorem TX.then_ret {K : Act → World → Prop} (k : TX Q .ret n s M) : TX (Exit.then K Q) .ret n s M := ⟨fun a w hf hm => k.go a w hf hm⟩
theorem TX.round {ι : Type _} {s' : ι → Sg} {M' : ι → World → Prop} {p : ι → Prop} {μ : ι → Nat} {m : Nat} (y : ι) (hp : p y) (hμ : μ y < m) (hs : Sub (s' y) s) (hM : ∀ w, M w → M' y w) :
    TX (Exit.then (fun a w => ∃ y, p y ∧ μ y < m ∧ Fr n (s' y) a ∧ M' y w) Q) .normal n s M := ⟨fun a w hf hm => ⟨y, hp, hμ, hf.sub hs, hM w hm⟩⟩
theorem TX.enter {ι : Type _} {s' : ι → Sg} {M' : ι → World → Prop} {p : ι → Prop} (y : ι) (hp : p y) (hs : Sub (s' y) s) (hM : ∀ w, M w → M' y w) : ∀ a w, Fr n s a → M w → ∃ x, p x ∧ Fr n (s' x) a ∧ M' x w :=
  fun a w hf hm => ⟨y, hp, hf.sub hs, hM w hm⟩
theorem TX.block_normal (k : TX Q .normal n s M) : TX (Exit.inBlock id Q) .normal n s M := ⟨fun a w hf hm => k.go a w hf hm⟩
theorem TX.block_ret (k : TX Q .ret n s M) : TX (Exit.inBlock id Q) .ret n s M := ⟨fun a w hf hm => k.go a w hf hm⟩
theorem TX.block_exit (k : TX Q .normal n s M) : TX (Exit.inBlock id Q) (.exit id) n s M := ⟨fun a w hf hm => by
  have := k.go a w hf hm
  simpa [Exit.inBlock] using this⟩
theorem TX.block_pass {id' : Nat} (h : Nat.beq id' id = false) (k : TX Q (.exit id') n s M) : TX (Exit.inBlock id Q) (.exit id') n s M := ⟨fun a w hf hm => by
  have hne : ¬ id' = id := fun e => by subst e; simp at h
  have := k.go a w hf hm
  simpa [Exit.inBlock, hne] using this⟩

/- the end of a body -/
theorem TX.ret_tmp {fn : Func} {N : Nat} {R : Ending → World → Prop} {t : Nat} {v : Value} (hr : fn.results = #[.tmp t]) (hv : lk s t = some v) (k : ∀ w, M w → R (.returned v) w) : TX (bodyPost P fn R) .ret ⟨N, []⟩ s M := by
  refine ⟨fun a w hf hm => ?_⟩
  refine bodyPost_ret (results_tmp hr _ _ _) hf.defers ?_
  rw [hf.get t v hv]
  exact k w hm
theorem TX.ret_tmp2 {fn : Func} {N : Nat} {R : Ending → World → Prop} {t u : Nat} {v v' : Value} (hr : fn.results = #[.tmp t, .tmp u]) (hv : lk s t = some v) (hv' : lk s u = some v') (k : ∀ w, M w → R (.returned (.tuple #[v, v'])) w) : TX (bodyPost P fn R) .ret ⟨N, []⟩ s M := by
  refine ⟨fun a w hf hm => ?_⟩
  refine bodyPost_ret (results_tmp2 hr _ _ _) hf.defers ?_
  rw [hf.get t v hv, hf.get u v' hv']
  exact k w hm
theorem TX.end0 {fn : Func} {N : Nat} {R : Ending → World → Prop} (hr : fn.results = #[]) (k : ∀ w, M w → R (.returned (.tuple #[])) w) : TX (bodyPost P fn R) .normal ⟨N, []⟩ s M := by
  refine ⟨fun a w hf hm => ?_⟩
  exact bodyPost_end (results_none hr _ _ _) hf.defers (k w hm)
theorem TX.ret0 {fn : Func} {N : Nat} {R : Ending → World → Prop} (hr : fn.results = #[]) (k : ∀ w, M w → R (.returned (.tuple #[])) w) : TX (bodyPost P fn R) .ret ⟨N, []⟩ s M := by
  refine ⟨fun a w hf hm => ?_⟩
  exact bodyPost_ret (results_none hr _ _ _) hf.defers (k w hm)

def argS : Nat → List Value → Sg
  | _, [] => []
  | i, v :: l => (i, v) :: argS (i + 1) l
theorem lk_argS : ∀ (l : List Value) (i j : Nat) (v : Value), lk (argS i l) j = some v → i ≤ j ∧ l[j - i]? = some v
  | [], _, _, _, h => by simp [argS, lk] at h
  | u :: l, i, j, v, h => by
    simp only [argS, lk] at h
    cases hb : Nat.beq i j with
    | true =>
      rw [hb] at h
      simp at h
      have : i = j := Nat.eq_of_beq_eq_true hb
      subst this
      simp [h]
    | false =>
      rw [hb] at h
      simp at h
      obtain ⟨h1, h2⟩ := lk_argS l (i + 1) j v h
      refine ⟨by omega, ?_⟩
      rw [show j - i = (j - (i + 1)) + 1 by omega]
      simpa using h2

theorem TC.calls {N : Nat} {f : FuncId} {fn : Func} {l : List Value} {w0 : World} {R : Ending → World → Prop} (hf : P.funcs[f]? = some fn) (hb : fn.body = some c) (hn : fn.ntmps = N) (hl : Nat.ble l.length N = true)
    (hm : M w0) (h : TC P c (bodyPost P fn R) ⟨N, []⟩ (argS 0 l) M) : Calls P f l.toArray w0 R := by
  refine calls_of_wp hf hb (h.go _ _ ⟨?_, rfl, ?_⟩ hm)
  · have := Nat.le_of_ble_eq_true hl
    simp [hn]
    omega
  · intro i v hi
    obtain ⟨_, h2⟩ := lk_argS l 0 i v hi
    have hlt := (List.getElem?_eq_some_iff.1 h2).1
    simp at h2 hlt
    simp only [Array.getElem?_append, List.getElem?_toArray, List.size_toArray, hlt, if_true, Array.getD_eq_getD_getElem?, h2, Option.getD_some]

/-- cut: the first part comes to a named state -/
theorem TC.cut {ι : Sort _} (s' : ι → Sg) (M' : ι → World → Prop)
    (k1 : TC P c1 (Exit.then (fun a w => ∃ x, Fr n (s' x) a ∧ M' x w) Q) n s M) (k2 : ∀ x, TC P c2 Q n (s' x) (M' x)) : TC P (.seq c1 c2) Q n s M := by
  refine ⟨fun a w hf hm => ?_⟩
  refine wp_seq (wp_mono (k1.go a w hf hm) ?_)
  intro e a' w' h
  cases e with
  | normal => obtain ⟨x, h1, h2⟩ := h; exact (k2 x).go a' w' h1 h2
  | _ => exact h

theorem TC.loop {ι : Type _} (s' : ι → Sg) (M' : ι → World → Prop) (p : ι → Prop) (μ : ι → Nat)
    (h0 : ∀ a w, Fr n s a → M w → ∃ x, p x ∧ Fr n (s' x) a ∧ M' x w)
    (round : ∀ x, p x → TC P c (Exit.then (fun a w => ∃ y, p y ∧ μ y < μ x ∧ Fr n (s' y) a ∧ M' y w) Q) n (s' x) (M' x)) : TC P (.loop c) Q n s M := by
  refine ⟨fun a w hf hm b k cs => ?_⟩
  obtain ⟨x0, hp0, hf0, hm0⟩ := h0 a w hf hm
  have key : ∀ m x a w, μ x = m → p x → Fr n (s' x) a → M' x w →
      ∃ e a' w', Q e a' w' ∧ Arrives P (lone (b.at a (.code c :: .inLoop c :: k)) cs w) b k cs e a' w' := by
    intro m
    induction m using Nat.strongRecOn with
    | _ m ih =>
      intro x a w hmx hp hf hm
      obtain ⟨e, a₁, w₁, hq, harr⟩ := (round x hp).go a w hf hm b (.inLoop c :: k) cs
      cases e with
      | normal =>
        obtain ⟨y, hpy, hlt, hfy, hmy⟩ := hq
        obtain ⟨e₂, a₂, w₂, hq₂, harr₂⟩ := ih (μ y) (hmx ▸ hlt) y a₁ w₁ rfl hpy hfy hmy
        exact ⟨e₂, a₂, w₂, hq₂, .of_steps (Steps.trans harr (.one step_inLoop)) harr₂⟩
      | exit id => exact ⟨_, a₁, w₁, hq, .pass (x := .inLoop c) rfl (fun _ _ => .inl (by simp)) harr⟩
      | goto l => exact ⟨_, a₁, w₁, hq, .pass (x := .inLoop c) rfl (fun _ _ => .inl (by simp)) harr⟩
      | ret => exact ⟨_, a₁, w₁, hq, .pass (x := .inLoop c) rfl (fun _ _ => .inl (by simp)) harr⟩
      | panic ch => exact ⟨_, a₁, w₁, hq, .pass (x := .inLoop c) rfl (fun _ _ => .inl (by simp)) harr⟩
      | outgrown => exact ⟨_, a₁, w₁, hq, .pass (x := .inLoop c) rfl (fun _ _ => .inl (by simp)) harr⟩
  obtain ⟨e, a', w', hq, harr⟩ := key _ x0 a w rfl hp0 hf0 hm0
  exact ⟨e, a', w', hq, .of_steps (.one step_loop) harr⟩
end
end Go.Sl
