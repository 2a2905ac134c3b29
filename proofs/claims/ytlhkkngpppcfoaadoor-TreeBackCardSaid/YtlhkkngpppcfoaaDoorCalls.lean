/-
  Calls, copies, ends of bodies, statements whose order is drawn.
-/
import Derived.Test.YtlhkkngpppcfoaaDoorActs
import Derived.StillTail
set_option linter.all false
namespace Go.Sl
open Go.RowKit
set_option linter.unusedVariables false

section
variable {P : Program} {ops : Array Oper} {Q : Exit → Act → World → Prop} {rest : List Oper} {n : FD} {s : Sg} {M : World → Prop}
  {op : Op} {ty : TypeId} {pos : String} {af : Array Edge} {d : Nat} {v : Value} {w0 : World} {L L' : List HP}

/-- what a function hands back: a value, and pieces of new memory; nothing old has turned -/
def Ret {ι : Sort _} (w : World) (val : ι → Value) (HL : ι → List HP) (p : ι → Prop) (e : Ending) (w' : World) : Prop :=
  ∃ x, e = .returned (val x) ∧ p x ∧ Below w.heap.size w w' ∧ Sep (HL x) (fun b => w.heap.size ≤ b ∧ b < w'.heap.size) w'
/-- a plain value -/
def RetV (w : World) (v : Value) (e : Ending) (w' : World) : Prop := e = .returned v ∧ Below w.heap.size w w'

theorem Ret.mk {ι : Sort _} {val : ι → Value} {HL : ι → List HP} {p : ι → Prop} (x : ι) (hp : p x) (hi : Inc L (HL x)) {w : World} (h : St w0 L w) : Ret w0 val HL p (.returned (val x)) w :=
  ⟨x, rfl, hp, h.below, h.sep.inc hi⟩
theorem RetV.eq {w : World} {v' : Value} (h : St w0 L w) (e : v = v') : RetV w0 v' (.returned v) w := ⟨by rw [e], h.below⟩
theorem RetV.mk {w : World} (h : St w0 L w) : RetV w0 v (.returned v) w := ⟨rfl, h.below⟩

theorem op_call {f : FuncId} {xs : List Operand} {vs : List Value} {tys : Array TypeId} [hf' : CF P f] (hxs : evs s xs = some vs) {a : Act} {w : World} {o : Oper}
    (ho : o.op = .call { callee := .value (.func f), args := xs.toArray, argTypes := tys }) (hf : Fr n s a) : (execOp a.eval o).run P w = .ok (.enter f vs.toArray) w := by
  have h1 := evs_eq hf hxs
  simp [execOp, ho, resolve, Deferred.ofValue, Act.eval, invoke, hf'.run _ w, ← h1]

theorem Cl.callR {ι : Sort _} {val : ι → Value} {HL : ι → List HP} {p : ι → Prop} {f : FuncId} {xs : List Operand} {vs : List Value} {tys : Array TypeId} [hf' : CF P f] (hxs : evs s xs = some vs)
    (h : ∀ w, St w0 L w → Calls P f vs.toArray w (Ret w val HL p)) :
    Cl P n s (St w0 L) (.call { callee := .value (.func f), args := xs.toArray, argTypes := tys }) ty (fun x : { x // p x } => val x.1) (fun x => St w0 (HL x.1 ++ L)) := by
  refine ⟨f, vs.toArray, fun a w o ho _ hf _ => op_call hxs ho hf, fun w hm => (h w hm).mono ?_⟩
  rintro e w' ⟨x, he, hp, hb, hs⟩
  exact ⟨⟨x, hp⟩, he, hm.pushL hb hs⟩
theorem Cl.callV {f : FuncId} {xs : List Operand} {vs : List Value} {tys : Array TypeId} [hf' : CF P f] (hxs : evs s xs = some vs)
    (h : ∀ w, St w0 L w → Calls P f vs.toArray w (RetV w v)) :
    Cl P n s (St w0 L) (.call { callee := .value (.func f), args := xs.toArray, argTypes := tys }) ty (fun _ : Unit => v) (fun _ => St w0 L) := by
  refine ⟨f, vs.toArray, fun a w o ho _ hf _ => op_call hxs ho hf, fun w hm => (h w hm).mono ?_⟩
  rintro e w' ⟨he, hb⟩
  exact ⟨(), he, hm.grow (Chg.of_below hb)⟩
/-- a call that turns what the caller owns -/
theorem Cl.callM {ι : Sort _} {val : ι → Value} {LL : ι → List HP} {f : FuncId} {xs : List Operand} {vs : List Value} {tys : Array TypeId} [hf' : CF P f] (hxs : evs s xs = some vs)
    (h : ∀ w, St w0 L w → Calls P f vs.toArray w (fun e w' => ∃ x, e = .returned (val x) ∧ St w0 (LL x) w')) :
    Cl P n s (St w0 L) (.call { callee := .value (.func f), args := xs.toArray, argTypes := tys }) ty val (fun x => St w0 (LL x)) :=
  ⟨f, vs.toArray, fun a w o ho _ hf _ => op_call hxs ho hf, h⟩

theorem T.callR {ι : Sort _} {val : ι → Value} {HL : ι → List HP} {p : ι → Prop} {f : FuncId} {xs : List Operand} {vs : List Value} {tys : Array TypeId} (hd : Nat.blt d n.sz = true) [hf' : CF P f] (hxs : evs s xs = some vs)
    (h : ∀ w, St w0 L w → Calls P f vs.toArray w (Ret w val HL p))
    (k : ∀ x, p x → T P ops Q rest n ((d, val x) :: s) (St w0 (HL x ++ L))) :
    T P ops Q (⟨some d, .call { callee := .value (.func f), args := xs.toArray, argTypes := tys }, ty, pos, af, none⟩ :: rest) n s (St w0 L) :=
  T.cl hd (Cl.callR hxs h) (fun x => k x.1 x.2)
theorem T.callV {f : FuncId} {xs : List Operand} {vs : List Value} {tys : Array TypeId} (hd : Nat.blt d n.sz = true) [hf' : CF P f] (hxs : evs s xs = some vs)
    (h : ∀ w, St w0 L w → Calls P f vs.toArray w (RetV w v))
    (k : T P ops Q rest n ((d, v) :: s) (St w0 L)) :
    T P ops Q (⟨some d, .call { callee := .value (.func f), args := xs.toArray, argTypes := tys }, ty, pos, af, none⟩ :: rest) n s (St w0 L) :=
  T.cl hd (Cl.callV hxs h) (fun _ => k)
theorem T.callM {ι : Sort _} {val : ι → Value} {LL : ι → List HP} {f : FuncId} {xs : List Operand} {vs : List Value} {tys : Array TypeId} (hd : Nat.blt d n.sz = true) [hf' : CF P f] (hxs : evs s xs = some vs)
    (h : ∀ w, St w0 L w → Calls P f vs.toArray w (fun e w' => ∃ x, e = .returned (val x) ∧ St w0 (LL x) w'))
    (k : ∀ x, T P ops Q rest n ((d, val x) :: s) (St w0 (LL x))) :
    T P ops Q (⟨some d, .call { callee := .value (.func f), args := xs.toArray, argTypes := tys }, ty, pos, af, none⟩ :: rest) n s (St w0 L) :=
  T.cl hd (Cl.callM hxs h) k

/-! ### copy -/
theorem own.copy {t e sz by_ m c m' c' : Nat} {z : Value} {A A' : Option Addr} {rows src : List (List Value)} {S : Nat → Prop} {w : World} [ht : SlT P t e sz by_ z] (h : (own e sz A m c rows).on S w) {S' : Nat → Prop}
    (hsrc : Arr sz S' w A' m' src) (h1 : ∀ r ∈ src, oneB r = true) :
    ∃ w', (Builtin.copy_ #[t, t] ty #[.slice A m c, .slice A' m' c']).run P w = .ok (.int .i64 (min m' m : Nat)) w' ∧ Chg w w' S ∧ (own e sz A m c (src.take m ++ rows.drop m')).on S w' := by
  obtain ⟨inf, i1, i2, i3, i4⟩ := ht.info
  obtain ⟨⟨hl, hc⟩, h2, h3, h4⟩ := h
  rcases hc with ⟨hv, h0⟩ | ⟨g, cap, cur, hv, hg, hw, hr1, hr2, hr3, hr4⟩
  · injection hv with hA hm hcc
    subst hA
    subst h0
    subst hcc
    have hr0 : rows = [] := List.eq_nil_of_length_eq_zero h2
    subst hr0
    refine ⟨w, ?_, Chg.refl, ⟨⟨by simp, .inl ⟨rfl, rfl⟩⟩, by simp, by simp, fun g hg => by simp [Value.ownBlock] at hg⟩⟩
    have hfc : (Builtin.firstCells inf.size 0 (.slice A' m' c')).run P w = .ok #[] w := by
      cases A' <;> simp [Builtin.firstCells, loadCells, loadCellsFrom]
    simp [Builtin.copy_, run_underlying ht.und, Builtin.lenOf, sizeOf, typeInfo, i1, hfc, goInt]
  · injection hv with hA hm hcc
    subst hA
    subst hcc
    have hk : min m' m ≤ m := Nat.min_le_right _ _
    have htk : src.take (min m' m) = src.take m := by
      rw [← hsrc.1, ← List.take_take, List.take_of_length_le (l := List.take m src) (by simp; omega)]
    have hlen : (src.take m).flatten.length = min m' m * sz := by
      rw [length_flatten (sz := sz) (fun r hr => hsrc.2.1 r (List.mem_of_mem_take hr)), List.length_take, hsrc.1, Nat.min_comm]
    have hfc : (Builtin.firstCells inf.size (Nat.min m' m) (.slice A' m' c')).run P w = .ok (src.take m).flatten.toArray w := by
      rcases Nat.eq_zero_or_pos m' with h0 | hpos
      · have : src = [] := List.eq_nil_of_length_eq_zero (hsrc.1.trans h0)
        subst this
        subst h0
        cases A' <;> simp [Builtin.firstCells, loadCells, loadCellsFrom]
      · obtain ⟨ad, hA', _, hcell⟩ := hsrc.2.2 hpos
        subst hA'
        rw [i3]
        refine run_firstCells_some (P := P) w sz _ ad m' c' _ hlen ?_
        intro j u hj
        refine hcell j u ?_
        have hjl := (List.getElem?_eq_some_iff.1 hj).1
        rw [← List.take_append_drop m src, List.flatten_append, List.getElem?_append_left hjl]
        exact hj
    have hmc : m * sz ≤ c * sz := Nat.mul_le_mul_right sz hr1
    have hkm : min m' m * sz ≤ m * sz := Nat.mul_le_mul_right sz hk
    have hst := run_storeCells_at P g 0 e (src.take m).flatten 0 cur w hw (by rw [hlen]; omega) (fun u hu => by
      obtain ⟨r, hr, hu⟩ := List.mem_flatten.1 hu
      exact oneB_spec (h1 r (List.mem_of_mem_take hr)) u hu)
    simp only [Nat.add_zero, Nat.zero_add, List.take_zero, List.nil_append] at hst
    have hrl : (src.take m ++ rows.drop m').length = m := by
      simp [hsrc.1, h2]; omega
    have hrs : ∀ r ∈ src.take m ++ rows.drop m', r.length = sz := by
      intro r hr
      rcases List.mem_append.1 hr with hr | hr
      · exact hsrc.2.1 r (List.mem_of_mem_take hr)
      · exact h3 r (List.mem_of_mem_drop hr)
    refine ⟨w.setRow g ((src.take m).flatten ++ List.drop (src.take m).flatten.length cur.toList).toArray, ?_, chg_setRow (h4 g rfl), ⟨⟨?_, .inr ⟨g, c, _, rfl, hg, setRow_heap w g cur _ e (0, 0) hw, hr1, hr2, ?_, ?_⟩⟩, hrl, hrs, h4⟩⟩
    · simp [Builtin.copy_, run_underlying ht.und, Builtin.lenOf, sizeOf, typeInfo, i1, goInt] at hfc ⊢
      simp [hfc, hst]
    · rw [length_flatten hrs, hrl]
    · simp only [List.size_toArray, List.length_append, List.length_drop, Array.length_toList, hlen, hr3]
      omega
    · simp only [List.flatten_append]
      rw [List.take_append, List.take_of_length_le (by omega), hlen]
      congr 1
      have hd : (rows.drop m').flatten = rows.flatten.drop (min m' m * sz) := by
        by_cases hmm : m' ≤ m
        · rw [Nat.min_eq_left hmm]
          have h5 : (rows.take m').flatten.length = m' * sz := by
            rw [length_flatten (sz := sz) (fun r hr => h3 r (List.mem_of_mem_take hr)), List.length_take, h2, Nat.min_eq_left hmm]
          conv => rhs; rw [← List.take_append_drop m' rows, List.flatten_append, ← h5]
          rw [List.drop_left]
        · rw [Nat.min_eq_right (by omega), List.drop_of_length_le (by omega), List.drop_of_length_le (by omega)]
          rfl
      rw [hd, ← hr4, List.drop_take]

theorem Ac.copy {x y : Operand} {t e sz by_ m c m' c' : Nat} {z : Value} {A A' : Option Addr} {rows src : List (List Value)} [ht : SlT P t e sz by_ z] (hx : ev s x = some (.slice A m c)) (hy : ev s y = some (.slice A' m' c'))
    (hu : Upd L (own e sz A m c rows) (own e sz A m c (src.take m ++ rows.drop m')) L') (hn : ∀ w, St w0 L w → Arr sz (fun b => b < w.heap.size) w A' m' src) (h1 : ∀ r ∈ src, oneB r = true) : Ac P n s (St w0 L) (.call { callee := .builtin .copy, args := #[x, y], argTypes := #[t, t] }) ty (ι := Unit) (fun _ => .int .i64 (min m' m : Nat)) (fun _ => St w0 L') := by
  refine ⟨fun a w o ho ht' hf hm => ?_⟩
  obtain ⟨S1, g1, g2, g3⟩ := hm.upd hu
  obtain ⟨w', hr, hc, hh⟩ := own.copy (P := P) (ty := ty) (c' := c') (t := t) g2 (hn w hm) h1
  refine ⟨(), w', ?_, g3 S1 w' hc (fun b hb => .inl hb) hh⟩
  simp [execOp, ho, resolve, hf.ev hx, hf.ev hy, invoke, builtin, ht', hr]
theorem T.copy {x y : Operand} {t e sz by_ m c m' c' : Nat} {z : Value} {A A' : Option Addr} {rows src : List (List Value)} (hd : Nat.blt d n.sz = true) [ht : SlT P t e sz by_ z] (hx : ev s x = some (.slice A m c)) (hy : ev s y = some (.slice A' m' c'))
    (hu : Upd L (own e sz A m c rows) (own e sz A m c (src.take m ++ rows.drop m')) L') (hn : ∀ w, St w0 L w → Arr sz (fun b => b < w.heap.size) w A' m' src) (h1 : ∀ r ∈ src, oneB r = true)
    (k : T P ops Q rest n ((d, .int .i64 (min m' m : Nat)) :: s) (St w0 L')) : T P ops Q (⟨some d, .call { callee := .builtin .copy, args := #[x, y], argTypes := #[t, t] }, ty, pos, af, none⟩ :: rest) n s (St w0 L) :=
  T.act hd (Ac.copy hx hy hu hn h1) (fun _ => k)

/-! ### Results that lie in blocks -/
inductive RV (P : Program) (s : Sg) (M : World → Prop) : List ResultVar → List Value → Prop where
  | nil : RV P s M [] []
  | tmp {t : Nat} {v : Value} {rs : List ResultVar} {vs : List Value} : lk s t = some v → RV P s M rs vs → RV P s M (.tmp t :: rs) (v :: vs)
  | cell {t : Nat} {a : Addr} {ty : TypeId} {v : Value} {rs : List ResultVar} {vs : List Value} : lk s t = some (.pointer (some a)) → (∀ w, M w → (loadVar ty a).run P w = .ok v w) → RV P s M rs vs → RV P s M (.cell t ty :: rs) (v :: vs)

def resOne (tmps : Array Value) : ResultVar → Sem Value
  | .tmp t => pure (tmps.getD t undef)
  | .cell a t => do loadVar t (← asAddr (tmps.getD a undef))
theorem results_eq (fn : Func) (tmps : Array Value) : results fn tmps = (do let vs ← fn.results.mapM (resOne tmps); pure (if h : vs.size = 1 then vs[0] else .tuple vs)) := by
  unfold results
  congr 1
theorem RV.run {a : Act} {w : World} (hf : Fr n s a) (hm : M w) : ∀ {rs : List ResultVar} {vs : List Value}, RV P s M rs vs → (rs.mapM (resOne a.tmps)).run P w = .ok vs w
  | _, _, .nil => by simp
  | _, _, .tmp h k => by
    have ih := RV.run hf hm k
    have h1 := hf.get _ _ h
    rw [List.mapM_cons, Sem.run_bind]
    simp only [resOne, Sem.run_pure, Result.andThen_ok, h1, Sem.run_bind, ih]
  | _, _, .cell h hl k => by
    have ih := RV.run hf hm k
    have h1 := hf.get _ _ h
    have h2 := hl w hm
    rw [List.mapM_cons, Sem.run_bind]
    simp only [resOne, Sem.run_bind, Sem.run_pure, Result.andThen_ok, h1, asAddr, h2, ih]

def resV : List Value → Value
  | [u] => u
  | l => .tuple l.toArray
theorem TX.ret_gen {N : Nat} {fn : Func} {R : Ending → World → Prop} {rs : List ResultVar} {vs : List Value} (hr : fn.results = rs.toArray) (hv : RV P s M rs vs)
    (k : ∀ w, M w → R (.returned (resV vs)) w) : TX (bodyPost P fn R) .ret ⟨N, []⟩ s M := by
  refine ⟨fun a w hf hm => ?_⟩
  refine bodyPost_ret ?_ hf.defers (k w hm)
  have h := hv.run hf hm
  rw [results_eq, hr, Sem.run_bind, List.mapM_toArray, Sem.run_map, h]
  simp only [Result.andThen_ok, Sem.run_pure]
  match vs with
  | [] => simp [resV]
  | [u] => simp [resV]
  | u :: u' :: l => simp [resV]

/-- a whole block read as a result -/
theorem blk_res {b t k ty : Nat} {cs : List Value} [h : LN P ty k] (ha : At L (blk b cs t)) (hk : cs.length = k) : ∀ w, St w0 L w → (loadVar ty ⟨b, 0, none⟩).run P w = .ok (.agg cs.toArray) w :=
  fun w hw => h.run _ w cs hk (fun j v hj => by rw [add_lit, Nat.zero_add]; exact hw.blk_cell ha hj)

/-- a whole block loaded; a part of one -/
theorem Ev.loadW {x : Operand} {t b t' k : Nat} {cs : List Value} [h : LN P t k] (hx : ev s x = some (.pointer (some ⟨b, 0, none⟩))) (ha : At L (blk b cs t')) (hk : cs.length = k) : Ev P n s (St w0 L) (.load t x) ty (.agg cs.toArray) :=
  Ev.loadN hx hk (fun w hw j v hj => by rw [add_lit, Nat.zero_add]; exact hw.blk_cell ha hj)
theorem Ev.loadB {x : Operand} {t b t' k o : Nat} {cs cs' : List Value} [h : LN P t k] (hx : ev s x = some (.pointer (some ⟨b, o, none⟩))) (ha : At L (blk b cs t')) (hc : (cs.drop o).take k = cs') (hk : cs'.length = k) : Ev P n s (St w0 L) (.load t x) ty (.agg cs'.toArray) :=
  Ev.loadN hx hk (fun w hw j v hj => by
    rw [add_lit]
    refine hw.blk_cell ha ?_
    rw [← hc, List.getElem?_take] at hj
    split at hj
    · rw [List.getElem?_drop] at hj; exact hj
    · cases hj)
/-- a field of a block -/
theorem Ev.load1b {x : Operand} {t b t' o : Nat} {cs : List Value} [h : L1 P t] (hx : ev s x = some (.pointer (some ⟨b, o, none⟩))) (ha : At L (blk b cs t')) (hv : cs[o]? = some v) : Ev P n s (St w0 L) (.load t x) ty v :=
  Ev.load1 hx (fun w hw => hw.blk_cell ha hv)

/-! ### Statements whose order is drawn -/
structure TQ (P : Program) (ops : Array Oper) (Q : Exit → Act → World → Prop) (rest : List Oper) (n : FD) (s : Sg) (M : World → Prop) : Prop where
  go : ∀ a, Fr n s a → wpQuiet P ops M (fun a' => ∀ w', M w' → Q .normal a' w') rest a

theorem TC.quiet {id : Nat} {l : List Oper} (hm : P.follows .mixedOrders = true) (hB : Region.lexB .any l.toArray = true) (k : TQ P l.toArray Q l n s (St w0 L)) : TC P (.region id l.toArray true) Q n s (St w0 L) :=
  ⟨fun a w hf hw => wp_region_quiet hm hB (St.drew hw) (k.go a hf)⟩
theorem TQ.nil (k : TX Q .normal n s M) : TQ P ops Q [] n s M := ⟨fun a hf w hm => k.go a w hf hm⟩
theorem TQ.ev_ (hd : Nat.blt d n.sz = true) (h : Ev P n s M op ty v) (k : TQ P ops Q rest n ((d, v) :: s) M) : TQ P ops Q (⟨some d, op, ty, pos, af, none⟩ :: rest) n s M := by
  refine ⟨fun a hf => ?_⟩
  unfold wpQuiet
  rw [if_pos (by simp [Region.wanted])]
  refine ⟨v, fun w hm => ?_, k.go _ (hf.put hd v)⟩
  unfold Oper.quietAt
  rw [h.go a w _ rfl rfl hf hm]
  exact ⟨rfl, rfl⟩
theorem TQ.callV {f : FuncId} {xs : List Operand} {vs : List Value} {tys : Array TypeId} (hd : Nat.blt d n.sz = true) [hf' : CF P f] (hxs : evs s xs = some vs)
    (h : ∀ w, St w0 L w → Calls P f vs.toArray w (RetV w v)) (k : TQ P ops Q rest n ((d, v) :: s) (St w0 L)) :
    TQ P ops Q (⟨some d, .call { callee := .value (.func f), args := xs.toArray, argTypes := tys }, ty, pos, af, none⟩ :: rest) n s (St w0 L) := by
  refine ⟨fun a hf => ?_⟩
  unfold wpQuiet
  rw [if_pos (by simp [Region.wanted])]
  refine ⟨v, fun w hm => ?_, k.go _ (hf.put hd v)⟩
  unfold Oper.quietAt
  rw [op_call hxs rfl hf]
  exact ⟨rfl, (h w hm).mono fun e w' ⟨he, hb⟩ => ⟨he, hm.grow (Chg.of_below hb)⟩⟩
theorem TQ.guard_yes {dst : Option Nat} {j dj : Nat} {want b : Bool} (hj : gd ops j = some dj) (hn : Nat.blt dj n.sz = true) (hb : lk s dj = some (.bool b)) (hw : b = want)
    (k : TQ P ops Q (⟨dst, op, ty, pos, af, none⟩ :: rest) n s M) : TQ P ops Q (⟨dst, op, ty, pos, af, some (j, want)⟩ :: rest) n s M := by
  refine ⟨fun a hf => ?_⟩
  have := k.go a hf
  unfold wpQuiet at this ⊢
  rw [if_pos (by simp only [Region.wanted, yielded_of hj hf hb hn, hw]; simp)]
  rw [if_pos (by simp [Region.wanted])] at this
  exact this
theorem TQ.guard_no {j dj : Nat} {want b : Bool} (hd : Nat.blt d n.sz = true) (hj : gd ops j = some dj) (hn : Nat.blt dj n.sz = true) (hb : lk s dj = some (.bool b)) (hw : b = !want)
    (k : TQ P ops Q rest n ((d, undef) :: s) M) : TQ P ops Q (⟨some d, op, ty, pos, af, some (j, want)⟩ :: rest) n s M := by
  refine ⟨fun a hf => ?_⟩
  unfold wpQuiet
  rw [if_neg (by simp only [Region.wanted, yielded_of hj hf hb hn, hw]; cases want <;> simp)]
  exact k.go _ (hf.put hd undef)
theorem TQ.guard_undef {j dj : Nat} {want : Bool} (hd : Nat.blt d n.sz = true) (hj : gd ops j = some dj) (hn : Nat.blt dj n.sz = true) (hb : lk s dj = some undef)
    (k : TQ P ops Q rest n ((d, undef) :: s) M) : TQ P ops Q (⟨some d, op, ty, pos, af, some (j, want)⟩ :: rest) n s M := by
  refine ⟨fun a hf => ?_⟩
  unfold wpQuiet
  rw [if_neg (by simp only [Region.wanted, yielded_of hj hf hb hn, undef]; simp)]
  exact k.go _ (hf.put hd undef)
theorem TQ.guard_split {j dj : Nat} {want b : Bool} (hd : Nat.blt d n.sz = true) (hj : gd ops j = some dj) (hn : Nat.blt dj n.sz = true) (hb : lk s dj = some (.bool b))
    (k1 : b = want → TQ P ops Q (⟨some d, op, ty, pos, af, none⟩ :: rest) n s M) (k2 : b = (!want) → TQ P ops Q rest n ((d, undef) :: s) M) : TQ P ops Q (⟨some d, op, ty, pos, af, some (j, want)⟩ :: rest) n s M := by
  by_cases h : b = want
  · exact TQ.guard_yes hj hn hb h (k1 h)
  · have h' : b = !want := by cases b <;> cases want <;> simp_all
    exact TQ.guard_no hd hj hn hb h' (k2 h')

theorem TQ.guard_split_t {j dj : Nat} {b : Bool} (hd : Nat.blt d n.sz = true) (hj : gd ops j = some dj) (hn : Nat.blt dj n.sz = true) (hb : lk s dj = some (.bool b))
    (k1 : b = true → TQ P ops Q (⟨some d, op, ty, pos, af, none⟩ :: rest) n s M) (k2 : b = false → TQ P ops Q rest n ((d, undef) :: s) M) : TQ P ops Q (⟨some d, op, ty, pos, af, some (j, true)⟩ :: rest) n s M := TQ.guard_split hd hj hn hb k1 k2
theorem TQ.guard_split_f {j dj : Nat} {b : Bool} (hd : Nat.blt d n.sz = true) (hj : gd ops j = some dj) (hn : Nat.blt dj n.sz = true) (hb : lk s dj = some (.bool b))
    (k1 : b = false → TQ P ops Q (⟨some d, op, ty, pos, af, none⟩ :: rest) n s M) (k2 : b = true → TQ P ops Q rest n ((d, undef) :: s) M) : TQ P ops Q (⟨some d, op, ty, pos, af, some (j, false)⟩ :: rest) n s M := TQ.guard_split hd hj hn hb k1 k2

/-- reads first, then a row of acts in their order -/
structure TS (P : Program) (ops : Array Oper) (Q : Exit → Act → World → Prop) (tail rest : List Oper) (n : FD) (s : Sg) (M : World → Prop) : Prop where
  go : ∀ a w, Fr n s a → M w → wpStill P ops w (fun a' => wpList P ops Q tail a' w) rest a
theorem TC.tail {id : Nat} {l : List Oper} (k : Nat) (hm : P.follows .mixedOrders = true) (hB : Region.lexTailB .any l.toArray k = true) (h : TS P l.toArray Q (l.drop k) (l.take k) n s (St w0 L)) : TC P (.region id l.toArray true) Q n s (St w0 L) :=
  ⟨fun a w hf hw => wp_region_still_tail k hm hB (h.go a _ hf (St.drew hw))⟩
variable {tail : List Oper}
theorem TS.nil (k : T P ops Q tail n s M) : TS P ops Q tail [] n s M := ⟨fun a w hf hm => k.go a w hf hm⟩
theorem TS.ev_ (hd : Nat.blt d n.sz = true) (h : Ev P n s M op ty v) (k : TS P ops Q tail rest n ((d, v) :: s) M) : TS P ops Q tail (⟨some d, op, ty, pos, af, none⟩ :: rest) n s M := by
  refine ⟨fun a w hf hm => ?_⟩
  unfold wpStill
  rw [if_pos (by simp [Region.wanted])]
  unfold Oper.still
  rw [h.go a w _ rfl rfl hf hm]
  exact ⟨rfl, k.go _ _ (hf.put hd v) hm⟩
end
end Go.Sl
