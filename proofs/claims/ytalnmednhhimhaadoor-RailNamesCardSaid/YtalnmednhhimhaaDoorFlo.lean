/-
  Operations on floats and complex numbers that hold whole numbers.
-/
import Derived.Test.YtalnmednhhimhaaDoorFl
import Derived.Test.YtalnmednhhimhaaDoorFacts
set_option linter.all false
namespace Go.Fl
theorem den_nearest {x : Int} (h : x.natAbs < 2 ^ 53) : Den (FloatKind.f64.nearest x) x := by rw [nearest_fw h]; exact den_fw h
/-- the word of a sum -/
def addW (a b : Nat) : Nat := (Ieee.double.add a b).getD 0
theorem addW_den {a b : Nat} {x y : Int} (ha : Den a x) (hb : Den b y) (h : (x + y).natAbs < 2 ^ 53) : Ieee.double.add a b = some (addW a b) ∧ Den (addW a b) (x + y) := by
  obtain ⟨s, h1, h2, h3, _⟩ := add_den ha hb h
  have e : addW a b = wd s (x + y).natAbs := by unfold addW; rw [h1]; rfl
  exact ⟨by rw [h1, e], den_of h e rfl h2 h3⟩
end Go.Fl
namespace Go.Sl
open Go Go.Fl
section
variable {P : Program} {n : FD} {s : Sg} {M : World → Prop} {ty : TypeId}
theorem Ev.conv_if {x : Operand} {t u : TypeId} {k : IntKind} {a : Int} [ht : UD P t (.int k)] [hu : UD P u (.float .f64)] (hx : ev s x = some (.int k a)) : Ev P n s M (.convert t u x) ty (.float .f64 (FloatKind.f64.nearest a)) := by
  refine ⟨fun ac w o ho ht' hf hm => ?_⟩
  simp [execOp, ho, hf.ev hx, convert, run_underlying ht.eq, run_underlying hu.eq, Conv.intToFloat]
theorem Ev.conv_fi {x : Operand} {t u : TypeId} {b : Nat} {a : Int} [ht : UD P t (.float .f64)] [hu : UD P u (.int .i64)] (hx : ev s x = some (.float .f64 b)) (hb : Den b a) (h : I64 a) : Ev P n s M (.convert t u x) ty (.int .i64 a) := by
  refine ⟨fun ac w o ho ht' hf hm => ?_⟩
  have hd : (FloatKind.f64.decode b).toInt .zero = some a := toInt_den hb
  have e1 : IntKind.i64.min = -9223372036854775808 := by decide
  have e2 : IntKind.i64.max = 9223372036854775807 := by decide
  have h1 : (-9223372036854775808 ≤ a ∧ a ≤ 9223372036854775807) := by unfold I64 at h; omega
  have h2 : (Conv.floatToInt .f64 b .i64).run P w = .ok (.int .i64 a) w := by
    unfold Conv.floatToInt
    simp only [hd, e1, e2]
    rw [if_pos h1]
    rfl
  simp [execOp, ho, hf.ev hx, convert, run_underlying ht.eq, run_underlying hu.eq, h2]
theorem run_complex_ {at_ : Array TypeId} {t : TypeId} {a b : Nat} {w : World} : (Builtin.complex_ at_ t #[.float .f64 a, .float .f64 b]).run P w = .ok (.complex .f64 a b) w := rfl
theorem run_real_ {at_ : Array TypeId} {t : TypeId} {a b : Nat} {w : World} : (Builtin.real_ at_ t #[.complex .f64 a b]).run P w = .ok (.float .f64 a) w := rfl
theorem run_imag_ {at_ : Array TypeId} {t : TypeId} {a b : Nat} {w : World} : (Builtin.imag_ at_ t #[.complex .f64 a b]).run P w = .ok (.float .f64 b) w := rfl
theorem Ev.complex_ {x y : Operand} {t u : TypeId} {a b : Nat} (hx : ev s x = some (.float .f64 a)) (hy : ev s y = some (.float .f64 b)) : Ev P n s M (.call { callee := .builtin .complex, args := #[x, y], argTypes := #[t, u] }) ty (.complex .f64 a b) := by
  refine ⟨fun ac w o ho ht' hf hm => ?_⟩
  simp [execOp, ho, resolve, hf.ev hx, hf.ev hy, invoke, builtin, run_complex_]
theorem Ev.real_ {x : Operand} {t : TypeId} {a b : Nat} (hx : ev s x = some (.complex .f64 a b)) : Ev P n s M (.call { callee := .builtin .real, args := #[x], argTypes := #[t] }) ty (.float .f64 a) := by
  refine ⟨fun ac w o ho ht' hf hm => ?_⟩
  simp [execOp, ho, resolve, hf.ev hx, invoke, builtin, run_real_]
theorem Ev.imag_ {x : Operand} {t : TypeId} {a b : Nat} (hx : ev s x = some (.complex .f64 a b)) : Ev P n s M (.call { callee := .builtin .imag, args := #[x], argTypes := #[t] }) ty (.float .f64 b) := by
  refine ⟨fun ac w o ho ht' hf hm => ?_⟩
  simp [execOp, ho, resolve, hf.ev hx, invoke, builtin, run_imag_]
theorem Ev.cadd {x y : Operand} {t u : TypeId} {a b c d : Nat} (hx : ev s x = some (.complex .f64 a b)) (hy : ev s y = some (.complex .f64 c d)) (h1 : Ieee.double.add a c = some (addW a c)) (h2 : Ieee.double.add b d = some (addW b d)) : Ev P n s M (.binOp .add t x y u) ty (.complex .f64 (addW a c) (addW b d)) := by
  refine ⟨fun ac w o ho ht' hf hm => ?_⟩
  have e1 : FloatKind.f64.format.add a c = some (addW a c) := h1
  have e2 : FloatKind.f64.format.add b d = some (addW b d) := h2
  simp [execOp, ho, hf.ev hx, hf.ev hy, eqGuard, binOp, Op.complexOp, Op.Complex.arith, Op.floatArith, e1, e2]
theorem Ev.fcmp {x y : Operand} {t u : TypeId} {a b : Nat} {i j : Int} (hx : ev s x = some (.float .f64 a)) (hy : ev s y = some (.float .f64 b)) (ha : Den a i) (hb : Den b j) :
    Ev P n s M (.binOp .leq t x y u) ty (.bool (decide (i ≤ j))) ∧ Ev P n s M (.binOp .geq t x y u) ty (.bool (decide (j ≤ i))) ∧ Ev P n s M (.binOp .gtr t x y u) ty (.bool (decide (j < i))) ∧ Ev P n s M (.binOp .lss t x y u) ty (.bool (decide (i < j))) := by
  have e : FloatKind.f64.format.order a b = some (compare i j) := order_den ha hb
  have hlt : (compare i j = .lt) ↔ i < j := Int.compare_eq_lt
  have heq : (compare i j = .eq) ↔ i = j := Int.compare_eq_eq
  have hgt : (compare i j = .gt) ↔ j < i := Int.compare_eq_gt
  refine ⟨⟨fun ac w o ho ht' hf hm => ?_⟩, ⟨fun ac w o ho ht' hf hm => ?_⟩, ⟨fun ac w o ho ht' hf hm => ?_⟩, ⟨fun ac w o ho ht' hf hm => ?_⟩⟩ <;>
    (simp [execOp, ho, hf.ev hx, hf.ev hy, eqGuard, binOp, Op.floatCmp, e]) <;>
    (rcases Int.lt_trichotomy i j with h | h | h
     · rw [hlt.2 h]; simp; try omega
     · rw [heq.2 h]; simp; try omega
     · rw [hgt.2 h]; simp; try omega)
end
end Go.Sl
