/-
  What each operation does, said of slots and owned pieces.
-/
import Derived.Test.YtlhkkngpppcfoaaDoorMem
set_option linter.all false
namespace Go.Sl
open Go.RowKit
set_option linter.unusedVariables false

/-! ### Facts on a program's tables (closed, by the kernel) -/
/-- a field's address -/
class FA (P : Program) (t i : Nat) (off : outParam Nat) : Prop where
  run : ∀ p w, (Instr.fieldAt t (.pointer (some p)) i).run P w = .ok (.pointer (some (p.add off))) w
/-- type t is of one cell -/
class L1 (P : Program) (t : Nat) : Prop where
  run : ∀ p w v, w.cell? p = some v → (loadVar t p).run P w = .ok v w
/-- type t is a struct or array of k cells -/
class LN (P : Program) (t : Nat) (k : outParam Nat) : Prop where
  run : ∀ p w (cs : List Value), cs.length = k → (∀ j v, cs[j]? = some v → w.cell? (p.add j) = some v) → (loadVar t p).run P w = .ok (.agg cs.toArray) w
/-- t is a slice type over elements e of sz cells, by bytes, zero z -/
class SlT (P : Program) (t : Nat) (e sz by_ : outParam Nat) (z : outParam Value) : Prop where
  und : P.underlying t = some (.slice e)
  info : ∃ i, P.info? e = some i ∧ i.zero = some z ∧ i.size = sz ∧ i.bytes = by_
  zsz : z.cells.size = sz
  pos : 0 < sz
/-- a function with a body -/
class CF (P : Program) (f : Nat) : Prop where
  run : ∀ args w, (callFunc f args).run P w = .ok (.enter f args) w
/-- a size -/
class SZ (P : Program) (t : Nat) (k : outParam Nat) : Prop where
  info : ∃ i, P.info? t = some i ∧ i.size = k
/-- a zero value -/
class ZV (P : Program) (t : Nat) (z : outParam Value) : Prop where
  run : ∀ w, (zeroValue t).run P w = .ok z w
/-- an array type: its length, its elements' type and size -/
class AT (P : Program) (t : Nat) (len e sz : outParam Nat) : Prop where
  und : P.underlying t = some (.array len e)
  info : ∃ i, P.info? e = some i ∧ i.size = sz
/-- an underlying type -/
class UD (P : Program) (t : Nat) (d : outParam TypeDesc) : Prop where
  eq : P.underlying t = some d

section
variable {P : Program}
theorem SZ.of {t k : Nat} (h : (P.info? t).map (·.size) = some k) : SZ P t k := by
  obtain ⟨i, hi, hk⟩ := Option.map_eq_some_iff.1 h
  exact ⟨⟨i, hi, hk⟩⟩
theorem ZV.of {t : Nat} {z : Value} (h : (P.info? t).map (·.zero) = some (some z)) : ZV P t z := by
  obtain ⟨i, hi, hk⟩ := Option.map_eq_some_iff.1 h
  exact ⟨fun w => by simp [zeroValue, typeInfo, hi, hk]⟩
theorem FA.of {t i off : Nat} {fs : Array Field} {f : Field} (hu : P.underlying t = some (.struct fs)) (hf : fs[i]? = some f) (ho : f.offset = off)
    (hs : (P.info? f.type).map (fun i => Nat.blt 0 i.size) = some true) : FA P t i off := by
  obtain ⟨j, hj, hk⟩ := Option.map_eq_some_iff.1 hs
  have hk : ¬ j.size = 0 := by have := blt_lt hk; omega
  refine ⟨fun p w => ?_⟩
  subst ho
  simp [Instr.fieldAt, run_underlying hu, hf, Instr.sureAddr, fieldPlace, sizeOf, typeInfo, hj, hk]
theorem L1.of {t : Nat} {d : TypeDesc} (hu : P.underlying t = some d) (hd : (match d with | .struct _ | .array _ _ => true | _ => false) = false) : L1 P t := by
  refine ⟨fun p w v hv => ?_⟩
  cases d <;> simp at hd <;> simp [loadVar, isAgg, run_underlying hu, hv]
theorem LN.of {t : Nat} {d : TypeDesc} {k : Nat} (hu : P.underlying t = some d) (hd : (match d with | .struct _ | .array _ _ => true | _ => false) = true) (hs : (P.info? t).map (·.size) = some k) : LN P t k := by
  obtain ⟨⟨i, hi, hk⟩⟩ := SZ.of hs
  refine ⟨fun p w cs hl hc => ?_⟩
  have := run_loadCells_list (P := P) w p cs hc
  rw [hl] at this
  cases d <;> simp at hd <;> simp [loadVar, isAgg, run_underlying hu, sizeOf, typeInfo, hi, hk, this]
theorem SlT.of {t e sz by_ : Nat} {z : Value} (hu : P.underlying t = some (.slice e)) (hi : (P.info? e).map (fun i => (i.zero, i.size, i.bytes)) = some (some z, sz, by_))
    (hz : z.cells.size = sz) (hp : Nat.blt 0 sz = true) : SlT P t e sz by_ z :=
  ⟨hu, info_parts hi, hz, blt_lt hp⟩
theorem CF.of {f : FuncId} {fn : Func} (hf : P.funcs[f]? = some fn) (hn : (fn.name == "runtime.NumGoroutine") = false) (hb : fn.body.isNone = false) : CF P f := by
  refine ⟨fun args w => ?_⟩
  have hn' : ¬ fn.name = "runtime.NumGoroutine" := by simpa using hn
  have hb' : ¬ fn.body = none := by intro h; simp [h] at hb
  simp [callFunc, hf, hn', hb']
end

def I64 (x : Int) : Prop := -9223372036854775808 ≤ x ∧ x ≤ 9223372036854775807

/-! ### Quiet operations -/
section
variable {P : Program} {n : FD} {s : Sg} {M : World → Prop} {ty : TypeId}

theorem Ev.move {x : Operand} {v : Value} (hx : ev s x = some v) : Ev P n s M (.move x) ty v := by
  refine ⟨fun a w o ho ht hf hm => ?_⟩
  simp [execOp, ho, hf.ev hx]
theorem Ev.assign {x : Operand} {v : Value} (hx : ev s x = some v) : Ev P n s M (.assign x) ty v := by
  refine ⟨fun a w o ho ht hf hm => ?_⟩
  simp [execOp, ho, hf.ev hx]
theorem Ev.pick_t {c x y : Operand} {b : Bool} {v : Value} (hc : ev s c = some (.bool b)) (hb : b = true) (hx : ev s x = some v) : Ev P n s M (.pick c x y) ty v := by
  refine ⟨fun a w o ho ht hf hm => ?_⟩
  subst hb
  simp [execOp, ho, hf.ev hc, hf.ev hx, asBool]
theorem Ev.pick_f {c x y : Operand} {b : Bool} {v : Value} (hc : ev s c = some (.bool b)) (hb : b = false) (hx : ev s y = some v) : Ev P n s M (.pick c x y) ty v := by
  refine ⟨fun a w o ho ht hf hm => ?_⟩
  subst hb
  simp [execOp, ho, hf.ev hc, hf.ev hx, asBool]
theorem Ev.not {x : Operand} {b : Bool} {t : TypeId} (hx : ev s x = some (.bool b)) : Ev P n s M (.unOp .not t x) ty (.bool (!b)) := by
  refine ⟨fun a w o ho ht hf hm => ?_⟩
  simp [execOp, ho, hf.ev hx, Op.unary]

/- integers -/
theorem Ev.lss {x y : Operand} {t u : TypeId} {k : IntKind} {a b : Int} (hx : ev s x = some (.int k a)) (hy : ev s y = some (.int k b)) : Ev P n s M (.binOp .lss t x y u) ty (.bool (decide (a < b))) := by
  refine ⟨fun ac w o ho ht hf hm => ?_⟩
  simp [execOp, ho, hf.ev hx, hf.ev hy, eqGuard, binOp, Op.intCmp]
theorem Ev.leq {x y : Operand} {t u : TypeId} {k : IntKind} {a b : Int} (hx : ev s x = some (.int k a)) (hy : ev s y = some (.int k b)) : Ev P n s M (.binOp .leq t x y u) ty (.bool (decide (a ≤ b))) := by
  refine ⟨fun ac w o ho ht hf hm => ?_⟩
  simp [execOp, ho, hf.ev hx, hf.ev hy, eqGuard, binOp, Op.intCmp]
theorem Ev.gtr {x y : Operand} {t u : TypeId} {k : IntKind} {a b : Int} (hx : ev s x = some (.int k a)) (hy : ev s y = some (.int k b)) : Ev P n s M (.binOp .gtr t x y u) ty (.bool (decide (b < a))) := by
  refine ⟨fun ac w o ho ht hf hm => ?_⟩
  simp [execOp, ho, hf.ev hx, hf.ev hy, eqGuard, binOp, Op.intCmp]
theorem Ev.geq {x y : Operand} {t u : TypeId} {k : IntKind} {a b : Int} (hx : ev s x = some (.int k a)) (hy : ev s y = some (.int k b)) : Ev P n s M (.binOp .geq t x y u) ty (.bool (decide (b ≤ a))) := by
  refine ⟨fun ac w o ho ht hf hm => ?_⟩
  simp [execOp, ho, hf.ev hx, hf.ev hy, eqGuard, binOp, Op.intCmp]
theorem Ev.eql {x y : Operand} {t u : TypeId} {k : IntKind} {a b : Int} (hx : ev s x = some (.int k a)) (hy : ev s y = some (.int k b)) : Ev P n s M (.binOp .eql t x y u) ty (.bool (decide (a = b))) := by
  refine ⟨fun ac w o ho ht hf hm => ?_⟩
  have : (a == b) = decide (a = b) := by rw [Bool.eq_iff_iff]; simp
  simp [execOp, ho, hf.ev hx, hf.ev hy, eqGuard, binOp, Op.intCmp, this]
theorem Ev.neq {x y : Operand} {t u : TypeId} {k : IntKind} {a b : Int} (hx : ev s x = some (.int k a)) (hy : ev s y = some (.int k b)) : Ev P n s M (.binOp .neq t x y u) ty (.bool (!decide (a = b))) := by
  refine ⟨fun ac w o ho ht hf hm => ?_⟩
  have : (a != b) = !decide (a = b) := by rw [Bool.eq_iff_iff]; simp
  simp [execOp, ho, hf.ev hx, hf.ev hy, eqGuard, binOp, Op.intCmp, this]
theorem Ev.add {x y : Operand} {t u : TypeId} {a b : Int} (hx : ev s x = some (.int .i64 a)) (hy : ev s y = some (.int .i64 b)) (hb : I64 (a + b)) : Ev P n s M (.binOp .add t x y u) ty (.int .i64 (a + b)) := by
  refine ⟨fun ac w o ho ht hf hm => ?_⟩
  simp [execOp, ho, hf.ev hx, hf.ev hy, eqGuard, binOp, Op.intArith, IntWalk.i64_in _ hb]
theorem Ev.sub {x y : Operand} {t u : TypeId} {a b : Int} (hx : ev s x = some (.int .i64 a)) (hy : ev s y = some (.int .i64 b)) (hb : I64 (a - b)) : Ev P n s M (.binOp .sub t x y u) ty (.int .i64 (a - b)) := by
  refine ⟨fun ac w o ho ht hf hm => ?_⟩
  simp [execOp, ho, hf.ev hx, hf.ev hy, eqGuard, binOp, Op.intArith, IntWalk.i64_in _ hb]
theorem Ev.mul {x y : Operand} {t u : TypeId} {a b : Int} (hx : ev s x = some (.int .i64 a)) (hy : ev s y = some (.int .i64 b)) (hb : I64 (a * b)) : Ev P n s M (.binOp .mul t x y u) ty (.int .i64 (a * b)) := by
  refine ⟨fun ac w o ho ht hf hm => ?_⟩
  simp [execOp, ho, hf.ev hx, hf.ev hy, eqGuard, binOp, Op.intArith, IntWalk.i64_in _ hb]
/-- sums with a natural counter -/
theorem Ev.succ {x : Operand} {t u : TypeId} {k : Nat} (hx : ev s x = some (.int .i64 (k : Int))) (hb : (k : Int) < 9223372036854775807) : Ev P n s M (.binOp .add t x (.const (.int .i64 1)) u) ty (.int .i64 ((k + 1 : Nat) : Int)) := by
  have := Ev.add (P := P) (n := n) (M := M) (ty := ty) (t := t) (u := u) (y := .const (.int .i64 1)) (b := 1) hx rfl (by unfold I64; omega)
  simpa using this
theorem Ev.pred {x : Operand} {t u : TypeId} {k : Nat} (hx : ev s x = some (.int .i64 (k : Int))) (hk : 0 < k) (hb : (k : Int) ≤ 9223372036854775807) : Ev P n s M (.binOp .sub t x (.const (.int .i64 1)) u) ty (.int .i64 ((k - 1 : Nat) : Int)) := by
  have := Ev.sub (P := P) (n := n) (M := M) (ty := ty) (t := t) (u := u) (y := .const (.int .i64 1)) (b := 1) hx rfl (by unfold I64; omega)
  rwa [show (k : Int) - 1 = ((k - 1 : Nat) : Int) from by omega] at this
theorem Ev.neg {x : Operand} {t : TypeId} {a : Int} (hx : ev s x = some (.int .i64 a)) (hb : I64 (-a)) : Ev P n s M (.unOp .neg t x) ty (.int .i64 (-a)) := by
  refine ⟨fun ac w o ho ht hf hm => ?_⟩
  have h := IntWalk.i64_in (-a) hb
  simp [execOp, ho, hf.ev hx, Op.unary, Op.intArith, h]
theorem Ev.conv {x : Operand} {t u : TypeId} {k k' : IntKind} {a b : Int} [ht : UD P t (.int k)] [hu : UD P u (.int k')] (hx : ev s x = some (.int k a)) (hb : k'.wrap a = b) :
    Ev P n s M (.convert t u x) ty (.int k' b) := by
  refine ⟨fun ac w o ho ht' hf hm => ?_⟩
  simp [execOp, ho, hf.ev hx, convert, run_underlying ht.eq, run_underlying hu.eq, Conv.intToInt, hb]
/-- a byte as an int -/
theorem Ev.conv_u8 {x : Operand} {t u : TypeId} {a : Int} [ht : UD P t (.int .u8)] [hu : UD P u (.int .i64)] (hx : ev s x = some (.int .u8 a)) (hb : 0 ≤ a ∧ a ≤ 255) :
    Ev P n s M (.convert t u x) ty (.int .i64 a) := Ev.conv hx (IntWalk.i64_in _ (by omega))
theorem run_equal_bool {t : TypeId} (ht : P.underlying t = some .bool) (a b : Bool) (w : World) : (Op.equal t (.bool a) (.bool b)).run P w = .ok (a == b) w := by
  show (Op.equalIn (9999 + 1) t (.bool a) (.bool b)).run P w = _
  rw [Op.equalIn]
  simp [run_underlying ht]
theorem Ev.bool_eql {x y : Operand} {t u : TypeId} {a b : Bool} [ht : UD P t .bool] (hx : ev s x = some (.bool a)) (hy : ev s y = some (.bool b)) : Ev P n s M (.binOp .eql t x y u) ty (.bool (a == b)) := by
  refine ⟨fun ac w o ho ht' hf hm => ?_⟩
  simp [execOp, ho, hf.ev hx, hf.ev hy, eqGuard, binOp, run_equal_bool ht.eq]
theorem Ev.bool_neq {x y : Operand} {t u : TypeId} {a b : Bool} [ht : UD P t .bool] (hx : ev s x = some (.bool a)) (hy : ev s y = some (.bool b)) : Ev P n s M (.binOp .neq t x y u) ty (.bool (!(a == b))) := by
  refine ⟨fun ac w o ho ht' hf hm => ?_⟩
  simp [execOp, ho, hf.ev hx, hf.ev hy, eqGuard, binOp, run_equal_bool ht.eq]

/- strings -/
theorem toList_eq (a b : ByteArray) : (a.toList == b.toList) = decide (a = b) := by
  rw [Bool.eq_iff_iff]
  simp only [beq_iff_eq, decide_eq_true_eq]
  constructor
  · intro h
    rw [ByteArray.toList_eq, ByteArray.toList_eq] at h
    cases a; cases b
    simp at h
    simp [h]
  · rintro rfl; rfl
theorem Ev.str_eql {x y : Operand} {t u : TypeId} {a b : ByteArray} (hx : ev s x = some (.string a)) (hy : ev s y = some (.string b)) : Ev P n s M (.binOp .eql t x y u) ty (.bool (decide (a = b))) := by
  refine ⟨fun ac w o ho ht hf hm => ?_⟩
  simp [execOp, ho, hf.ev hx, hf.ev hy, eqGuard, binOp, Op.stringOp, ← toList_eq]
theorem Ev.str_neq {x y : Operand} {t u : TypeId} {a b : ByteArray} (hx : ev s x = some (.string a)) (hy : ev s y = some (.string b)) : Ev P n s M (.binOp .neq t x y u) ty (.bool (!decide (a = b))) := by
  refine ⟨fun ac w o ho ht hf hm => ?_⟩
  simp [execOp, ho, hf.ev hx, hf.ev hy, eqGuard, binOp, Op.stringOp, ← toList_eq]
theorem Ev.str_len {x : Operand} {t : TypeId} {a : ByteArray} [ht : UD P t .string] (hx : ev s x = some (.string a)) :
    Ev P n s M (.call { callee := .builtin .len, args := #[x], argTypes := #[t] }) ty (.int .i64 (a.size : Int)) := by
  refine ⟨fun ac w o ho ht' hf hm => ?_⟩
  simp [execOp, ho, resolve, hf.ev hx, invoke, builtin, Builtin.len_, run_underlying ht.eq, goInt]
theorem Ev.str_index {x y : Operand} {t : TypeId} {a : ByteArray} {k : IntKind} {i : Nat} [ht : UD P t .string] (hx : ev s x = some (.string a)) (hy : ev s y = some (.int k (i : Int))) {b : UInt8} (hb : a.data[i]? = some b) :
    Ev P n s M (.index t x y) ty (.int .u8 b.toNat) := by
  refine ⟨fun ac w o ho ht' hf hm => ?_⟩
  have hb' : a[i]? = some b := hb
  simp [execOp, ho, hf.ev hx, hf.ev hy, Instr.index, asIntOf, run_underlying ht.eq, hb']
theorem Ev.str_slice {x : Operand} {t : TypeId} {a : ByteArray} {lo hi : Option Operand} {l h : Nat} [ht : UD P t .string] (hx : ev s x = some (.string a))
    (hl : (lo = none ∧ l = 0) ∨ ∃ y k, lo = some y ∧ ev s y = some (.int k (l : Int))) (hh : (hi = none ∧ h = a.size) ∨ ∃ y k, hi = some y ∧ ev s y = some (.int k (h : Int))) (hlh : l ≤ h) (hha : h ≤ a.size) :
    Ev P n s M (.slice t x lo hi none) ty (.string (a.extract l h)) := by
  refine ⟨fun ac w o ho ht' hf hm => ?_⟩
  have h2 : h ≤ a.size := hha
  rcases hl with ⟨rfl, rfl⟩ | ⟨y, k, rfl, hy⟩ <;> rcases hh with ⟨rfl, rfl⟩ | ⟨y', k', rfl, hy'⟩
  · simp [execOp, ho, hf.ev hx, Instr.sliceAt, Instr.slice, Instr.sliceBounds, run_underlying ht.eq]
  · simp [execOp, ho, hf.ev hx, hf.ev hy', Instr.sliceAt, Instr.slice, Instr.sliceBounds, Instr.sliceBound, asIntOf, run_underlying ht.eq, h2]
  · have : l ≤ a.size := hlh
    simp [execOp, ho, hf.ev hx, hf.ev hy, Instr.sliceAt, Instr.slice, Instr.sliceBounds, Instr.sliceBound, asIntOf, run_underlying ht.eq, this]
  · simp [execOp, ho, hf.ev hx, hf.ev hy, hf.ev hy', Instr.sliceAt, Instr.slice, Instr.sliceBounds, Instr.sliceBound, asIntOf, run_underlying ht.eq, h2, hlh]

theorem Ev.str_to {x y : Operand} {t : TypeId} {a : ByteArray} {k : IntKind} {h : Nat} [ht : UD P t .string] (hx : ev s x = some (.string a)) (hy : ev s y = some (.int k (h : Int))) (hha : h ≤ a.size) : Ev P n s M (.slice t x none (some y) none) ty (.string (a.extract 0 h)) :=
  Ev.str_slice hx (.inl ⟨rfl, rfl⟩) (.inr ⟨y, k, rfl, hy⟩) (Nat.zero_le _) hha
theorem Ev.str_from {x y : Operand} {t : TypeId} {a : ByteArray} {k : IntKind} {l : Nat} [ht : UD P t .string] (hx : ev s x = some (.string a)) (hy : ev s y = some (.int k (l : Int))) (hla : l ≤ a.size) : Ev P n s M (.slice t x (some y) none none) ty (.string (a.extract l a.size)) :=
  Ev.str_slice hx (.inr ⟨y, k, rfl, hy⟩) (.inl ⟨rfl, rfl⟩) hla (Nat.le_refl _)

/- addresses -/
theorem Ev.fieldAddr {x : Operand} {t i off : Nat} {p : Addr} [h : FA P t i off] (hx : ev s x = some (.pointer (some p))) : Ev P n s M (.fieldAddr t x i) ty (.pointer (some (p.add off))) := by
  refine ⟨fun ac w o ho ht hf hm => ?_⟩
  simp [execOp, ho, hf.ev hx, h.run p w]
theorem Ev.fieldAddr_blk {x : Operand} {t i off b k : Nat} [h : FA P t i off] (hx : ev s x = some (.pointer (some ⟨b, k, none⟩))) : Ev P n s M (.fieldAddr t x i) ty (.pointer (some ⟨b, k + off, none⟩)) := by
  rw [← add_lit]; exact Ev.fieldAddr hx
theorem Ev.fieldAddr_add {x : Operand} {t i off k : Nat} {p : Addr} [h : FA P t i off] (hx : ev s x = some (.pointer (some (p.add k)))) : Ev P n s M (.fieldAddr t x i) ty (.pointer (some (p.add (k + off)))) := by
  rw [← add_add]; exact Ev.fieldAddr hx
theorem Ev.nilCheck {x : Operand} {p : Addr} (hx : ev s x = some (.pointer (some p))) : Ev P n s M (.nilCheck x) ty (.pointer (some p)) := by
  refine ⟨fun ac w o ho ht hf hm => ?_⟩
  simp [execOp, ho, hf.ev hx]
theorem Ev.indexAddr {x y : Operand} {t e sz by_ : Nat} {z : Value} {A : Option Addr} {m c i : Nat} {k : IntKind} [ht : SlT P t e sz by_ z] (hx : ev s x = some (.slice A m c)) (hy : ev s y = some (.int k (i : Int)))
    (hi : i < m) (hA : ∀ w, M w → A = some (A.getD default)) : Ev P n s M (.indexAddr t x y) ty (.pointer (some ((A.getD default).add (i * sz)))) := by
  refine ⟨fun ac w o ho ht' hf hm => ?_⟩
  obtain ⟨inf, h1, h2, h3, h4⟩ := ht.info
  have hA := hA w hm
  cases A with
  | none => simp at hA
  | some a => simp [execOp, ho, hf.ev hx, hf.ev hy, Instr.indexAt, asIntOf, run_underlying ht.und, sizeOf, typeInfo, h1, h3, hi]
theorem Ev.arrAddr {x y : Operand} {t len e sz b o i : Nat} {k : IntKind} [ht : AT P t len e sz] (hx : ev s x = some (.pointer (some ⟨b, o, none⟩))) (hy : ev s y = some (.int k (i : Int))) (hi : i < len) : Ev P n s M (.indexAddr t x y) ty (.pointer (some ⟨b, o + i * sz, none⟩)) := by
  refine ⟨fun ac w oo ho ht' hf hm => ?_⟩
  obtain ⟨inf, h1, h2⟩ := ht.info
  simp [execOp, ho, hf.ev hx, hf.ev hy, Instr.indexAt, Instr.sureAddr, asIntOf, run_underlying ht.und, sizeOf, typeInfo, h1, h2, hi, add_lit]
theorem Ev.slice_len {x : Operand} {t e : TypeId} {A : Option Addr} {m c : Nat} [ht : UD P t (.slice e)] (hx : ev s x = some (.slice A m c)) :
    Ev P n s M (.call { callee := .builtin .len, args := #[x], argTypes := #[t] }) ty (.int .i64 (m : Int)) := by
  refine ⟨fun ac w o ho ht' hf hm => ?_⟩
  simp [execOp, ho, resolve, hf.ev hx, invoke, builtin, Builtin.len_, run_underlying ht.eq, goInt]
theorem Ev.slice_slice {x : Operand} {t e sz by_ : Nat} {z : Value} {A : Option Addr} {m c : Nat} {lo hi : Option Operand} {l h : Nat} [ht : SlT P t e sz by_ z] (hx : ev s x = some (.slice A m c))
    (hl : (lo = none ∧ l = 0) ∨ ∃ y k, lo = some y ∧ ev s y = some (.int k (l : Int))) (hh : (hi = none ∧ h = m) ∨ ∃ y k, hi = some y ∧ ev s y = some (.int k (h : Int))) (hlh : l ≤ h) (hha : h ≤ c) :
    Ev P n s M (.slice t x lo hi none) ty (.slice (if c = l then A else A.map (·.add (l * sz))) (h - l) (c - l)) := by
  refine ⟨fun ac w o ho ht' hf hm => ?_⟩
  obtain ⟨inf, h1, h2, h3, h4⟩ := ht.info
  rcases hl with ⟨rfl, rfl⟩ | ⟨y, k, rfl, hy⟩ <;> rcases hh with ⟨rfl, rfl⟩ | ⟨y', k', rfl, hy'⟩
  · simp [execOp, ho, hf.ev hx, Instr.sliceAt, Instr.slice, Instr.sliceBounds, run_underlying ht.und, sizeOf, typeInfo, h1, h3]
  · simp [execOp, ho, hf.ev hx, hf.ev hy', Instr.sliceAt, Instr.slice, Instr.sliceBounds, Instr.sliceBound, asIntOf, run_underlying ht.und, hha, sizeOf, typeInfo, h1, h3]
  · simp [execOp, ho, hf.ev hx, hf.ev hy, Instr.sliceAt, Instr.slice, Instr.sliceBounds, Instr.sliceBound, asIntOf, run_underlying ht.und, hlh, sizeOf, typeInfo, h1, h3]
  · simp [execOp, ho, hf.ev hx, hf.ev hy, hf.ev hy', Instr.sliceAt, Instr.slice, Instr.sliceBounds, Instr.sliceBound, asIntOf, run_underlying ht.und, hha, hlh, sizeOf, typeInfo, h1, h3]
/-- x[:h] -/
theorem Ev.slice_to {x y : Operand} {t e sz by_ : Nat} {z : Value} {A : Option Addr} {m c h : Nat} {k : IntKind} [ht : SlT P t e sz by_ z] (hx : ev s x = some (.slice A m c)) (hy : ev s y = some (.int k (h : Int))) (hha : h ≤ c) :
    Ev P n s M (.slice t x none (some y) none) ty (.slice A h c) := by
  have := Ev.slice_slice (P := P) (t := t) (n := n) (s := s) (M := M) (ty := ty) (lo := none) (hi := some y) (l := 0) (h := h) hx (.inl ⟨rfl, rfl⟩) (.inr ⟨y, k, rfl, hy⟩) (by omega) hha
  have e1 : (if c = 0 then A else A.map (·.add (0 * sz))) = A := by
    split
    · rfl
    · cases A <;> simp [Addr.add]
  rwa [e1, Nat.sub_zero, Nat.sub_zero] at this

/- loads -/
theorem Ev.load1 {x : Operand} {t : TypeId} {p : Addr} {v : Value} [h : L1 P t] (hx : ev s x = some (.pointer (some p))) (hv : ∀ w, M w → w.cell? p = some v) : Ev P n s M (.load t x) ty v := by
  refine ⟨fun ac w o ho ht hf hm => ?_⟩
  simp [execOp, ho, hf.ev hx, Instr.loadAt, Instr.sureAddr, h.run p w v (hv w hm)]
theorem Ev.loadN {x : Operand} {t k : Nat} {p : Addr} {cs : List Value} [h : LN P t k] (hx : ev s x = some (.pointer (some p))) (hk : cs.length = k) (hv : ∀ w, M w → ∀ j v, cs[j]? = some v → w.cell? (p.add j) = some v) :
    Ev P n s M (.load t x) ty (.agg cs.toArray) := by
  refine ⟨fun ac w o ho ht hf hm => ?_⟩
  simp [execOp, ho, hf.ev hx, Instr.loadAt, Instr.sureAddr, h.run p w cs hk (hv w hm)]

/- tuples, structs by value -/
theorem Ev.extract {x : Operand} {i : Nat} {vs : Array Value} {v : Value} (hx : ev s x = some (.tuple vs)) (hv : vs[i]? = some v) : Ev P n s M (.extract x i) ty v := by
  refine ⟨fun ac w o ho ht hf hm => ?_⟩
  simp [execOp, ho, hf.ev hx, Instr.extract, hv]
theorem Ev.field1 {x : Operand} {t i : Nat} {fs : Array Field} {f : Field} {d : TypeDesc} {cs : Array Value} {v : Value} (hu : P.underlying t = some (.struct fs)) (hf' : fs[i]? = some f) (hd : P.underlying f.type = some d)
    (hd' : (match d with | .struct _ | .array _ _ => true | _ => false) = false) (hx : ev s x = some (.agg cs)) (hv : cs[f.offset]? = some v) : Ev P n s M (.field t x i) ty v := by
  refine ⟨fun ac w o ho ht hf hm => ?_⟩
  cases d <;> simp at hd' <;> simp [execOp, ho, hf.ev hx, Instr.field, run_underlying hu, hf', part, isAgg, run_underlying hd, asAgg, hv]
theorem run_build_struct {t : TypeId} {z : Value} {pl : Array (Nat × Nat)} {fs : Array Field} {vs : Array (Nat × Value)} {cs : Array Value} (hz : ∀ w, (zeroValue t).run P w = .ok z w) (hu : P.underlying t = some (.struct fs))
    (hp : ∀ w, (fs.mapM fun f => (do pure (f.offset, ← sizeOf f.type) : Sem (Nat × Nat))).run P w = .ok pl w) (hc : Instr.fill (pl[·]?) z.cells vs.toList = some cs) (w : World) : (Instr.build t vs).run P w = .ok (.agg cs) w := by
  unfold Instr.build
  rw [Sem.run_bind, hz w, Result.andThen_ok, Sem.run_bind, run_underlying hu, Result.andThen_ok]
  simp only
  rw [Sem.run_bind, hp w, Result.andThen_ok]
  simp only [hc]
  rfl
/-- places of a struct's fields -/
class PL (P : Program) (t : Nat) (z : outParam Value) (pl : outParam (Array (Nat × Nat))) : Prop where
  run : ∀ (vs : Array (Nat × Value)) cs w, Instr.fill (pl[·]?) z.cells vs.toList = some cs → (Instr.build t vs).run P w = .ok (.agg cs) w
theorem PL.of {t : TypeId} {z : Value} {pl : Array (Nat × Nat)} {fs : Array Field} (hz : ∀ w, (zeroValue t).run P w = .ok z w) (hu : P.underlying t = some (.struct fs))
    (hp : ∀ w, (fs.mapM fun f => (do pure (f.offset, ← sizeOf f.type) : Sem (Nat × Nat))).run P w = .ok pl w) : PL P t z pl := ⟨fun _ _ w hc => run_build_struct hz hu hp hc w⟩
def evp (s : Sg) : List (Nat × Operand) → Option (List (Nat × Value))
  | [] => some []
  | p :: l => match ev s p.2, evp s l with
    | some v, some vs => some ((p.1, v) :: vs)
    | _, _ => none
theorem evp_eq {a : Act} (hf : Fr n s a) : ∀ {l : List (Nat × Operand)} {vs : List (Nat × Value)}, evp s l = some vs → l.map (fun p => (p.1, a.eval p.2)) = vs
  | [], vs, h => by simp [evp] at h; simp [h]
  | p :: l, vs, h => by
    simp only [evp] at h
    cases hv : ev s p.2 with
    | none => simp [hv] at h
    | some v =>
      cases hl : evp s l with
      | none => simp [hv, hl] at h
      | some us =>
        simp [hv, hl] at h
        subst h
        simp [hf.ev hv, evp_eq hf hl]
theorem Ev.build {t : TypeId} {ps : List (Nat × Operand)} {z : Value} {pl : Array (Nat × Nat)} {vs : List (Nat × Value)} {cs : Array Value} [hp : PL P t z pl] (hvs : evp s ps = some vs) (hc : Instr.fill (pl[·]?) z.cells vs = some cs) :
    Ev P n s M (.build t ps.toArray) ty (.agg cs) := by
  refine ⟨fun ac w o ho ht hf hm => ?_⟩
  have h1 := evp_eq hf hvs
  have h2 := hp.run vs.toArray cs w (by simpa using hc)
  rw [← h1] at h2
  simp only [execOp, ho]
  simp at h2 ⊢
  simp [h2]
theorem Ev.build_arr0 {t len e sz : Nat} {cs : Array Value} [ht : AT P t len e sz] [hz : ZV P t (.agg cs)] : Ev P n s M (.build t #[]) ty (.agg cs) := by
  refine ⟨fun ac w o ho ht' hf hm => ?_⟩
  obtain ⟨inf, h1, h2⟩ := ht.info
  simp [execOp, ho, Instr.build, hz.run w, run_underlying ht.und, sizeOf, typeInfo, h1, Value.cells, Instr.fill]
end
end Go.Sl
