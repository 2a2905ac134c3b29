/-
  More operations: min, max, quotients, calls of function values.
-/
import Derived.Test.YtalnmednhhimhaaDoorWalkT
set_option linter.all false
namespace Go.Sl
open Go.RowKit
section
variable {P : Program} {n : FD} {s : Sg} {M : World → Prop} {ty : TypeId}
theorem Ev.max_ {x y : Operand} {t u : TypeId} {a b : Int} (hx : ev s x = some (.int .i64 a)) (hy : ev s y = some (.int .i64 b)) :
    Ev P n s M (.call { callee := .builtin .max, args := #[x, y], argTypes := #[t, u] }) ty (.int .i64 (max a b)) := by
  refine ⟨fun ac w o ho ht hf hm => ?_⟩
  simp [execOp, ho, resolve, hf.ev hx, hf.ev hy, invoke, builtin, Builtin.max_, Builtin.max2]
  by_cases h : b ≤ a <;> simp [h, Int.max_def] <;> omega
theorem Ev.min_ {x y : Operand} {t u : TypeId} {a b : Int} (hx : ev s x = some (.int .i64 a)) (hy : ev s y = some (.int .i64 b)) :
    Ev P n s M (.call { callee := .builtin .min, args := #[x, y], argTypes := #[t, u] }) ty (.int .i64 (min a b)) := by
  refine ⟨fun ac w o ho ht hf hm => ?_⟩
  simp [execOp, ho, resolve, hf.ev hx, hf.ev hy, invoke, builtin, Builtin.min_, Builtin.min2]
  by_cases h : a ≤ b <;> simp [h, Int.min_def] <;> omega
theorem Ev.quo {x : Operand} {t u : TypeId} {a d : Int} (hx : ev s x = some (.int .i64 a)) (ha : 0 ≤ a ∧ a ≤ 9223372036854775807) (hd : 1 ≤ d) :
    Ev P n s M (.binOp .quo t x (.const (.int .i64 d)) u) ty (.int .i64 (a / d)) := by
  refine ⟨fun ac w o ho ht hf hm => ?_⟩
  have h1 := IntWalk.i64_quo a d ⟨ha.1, ha.2, hd⟩
  have h2 : ¬ d = 0 := by omega
  have hy : ac.eval (.const (.int .i64 d)) = .int .i64 d := rfl
  simp [execOp, ho, hf.ev hx, hy, eqGuard, binOp, Op.intDiv, h1, h2]
/-! slices of some written parts -/
theorem Ac.lit2 {w0 : World} {L : List HP} {t e sz by_ : Nat} {z : Value} {v0 v1 : Value} {x0 x1 : Operand} [ht : SlT P t e sz by_ z] (hx0 : ev s x0 = some v0) (hx1 : ev s x1 = some v1) {r0 r1 : List Value} (hr0 : v0.cells.toList = r0) (hr1 : v1.cells.toList = r1) (hz0 : r0.length = sz) (hz1 : r1.length = sz) (hb : Nat.ble (2 * sz) 16777216 = true) :
    Ac P n s (St w0 L) (.buildSlice t 2 #[(0, x0), (1, x1)]) ty (ι := Nat) (fun b => .slice (some ⟨b, 0, none⟩) 2 2) (fun b => St w0 (own e sz (some ⟨b, 0, none⟩) 2 2 [r0, r1] :: L)) := by
  have hb := Nat.le_of_ble_eq_true hb
  refine Ac.lit (ps := [(0, x0), (1, x1)]) (xs := [x0, x1]) (vs := [v0, v1]) rfl (by simp [evs, hx0, hx1]) ?_ (by simpa using hb) rfl (by simp [hr0, hr1])
  intro u hu
  have hl : ∀ (v : Value) (r : List Value), v.cells.toList = r → r.length = sz → v.cells.size = sz := fun v r h1 h2 => by rw [← h2, ← h1, Array.length_toList]
  simp only [List.mem_cons, List.not_mem_nil, or_false] at hu
  rcases hu with rfl | rfl
  · exact hl _ _ hr0 hz0
  · exact hl _ _ hr1 hz1
theorem T.lit2 {ops : Array Oper} {Q : Exit → Act → World → Prop} {rest : List Oper} {d : Nat} {pos : String} {af : Array Edge} {w0 : World} {L : List HP} {t e sz by_ : Nat} {z : Value} {v0 v1 : Value} {x0 x1 : Operand} (hd : Nat.blt d n.sz = true) [ht : SlT P t e sz by_ z] (hx0 : ev s x0 = some v0) (hx1 : ev s x1 = some v1) {r0 r1 : List Value} (hr0 : v0.cells.toList = r0) (hr1 : v1.cells.toList = r1) (hz0 : r0.length = sz) (hz1 : r1.length = sz) (hb : Nat.ble (2 * sz) 16777216 = true)
    (k : ∀ b, T P ops Q rest n ((d, .slice (some ⟨b, 0, none⟩) 2 2) :: s) (St w0 (own e sz (some ⟨b, 0, none⟩) 2 2 [r0, r1] :: L))) : T P ops Q (⟨some d, .buildSlice t 2 #[(0, x0), (1, x1)], ty, pos, af, none⟩ :: rest) n s (St w0 L) :=
  T.act hd (Ac.lit2 hx0 hx1 hr0 hr1 hz0 hz1 hb) k
theorem Ac.lit3 {w0 : World} {L : List HP} {t e sz by_ : Nat} {z : Value} {v0 v1 v2 : Value} {x0 x1 x2 : Operand} [ht : SlT P t e sz by_ z] (hx0 : ev s x0 = some v0) (hx1 : ev s x1 = some v1) (hx2 : ev s x2 = some v2) {r0 r1 r2 : List Value} (hr0 : v0.cells.toList = r0) (hr1 : v1.cells.toList = r1) (hr2 : v2.cells.toList = r2) (hz0 : r0.length = sz) (hz1 : r1.length = sz) (hz2 : r2.length = sz) (hb : Nat.ble (3 * sz) 16777216 = true) :
    Ac P n s (St w0 L) (.buildSlice t 3 #[(0, x0), (1, x1), (2, x2)]) ty (ι := Nat) (fun b => .slice (some ⟨b, 0, none⟩) 3 3) (fun b => St w0 (own e sz (some ⟨b, 0, none⟩) 3 3 [r0, r1, r2] :: L)) := by
  have hb := Nat.le_of_ble_eq_true hb
  refine Ac.lit (ps := [(0, x0), (1, x1), (2, x2)]) (xs := [x0, x1, x2]) (vs := [v0, v1, v2]) rfl (by simp [evs, hx0, hx1, hx2]) ?_ (by simpa using hb) rfl (by simp [hr0, hr1, hr2])
  intro u hu
  have hl : ∀ (v : Value) (r : List Value), v.cells.toList = r → r.length = sz → v.cells.size = sz := fun v r h1 h2 => by rw [← h2, ← h1, Array.length_toList]
  simp only [List.mem_cons, List.not_mem_nil, or_false] at hu
  rcases hu with rfl | rfl | rfl
  · exact hl _ _ hr0 hz0
  · exact hl _ _ hr1 hz1
  · exact hl _ _ hr2 hz2
theorem T.lit3 {ops : Array Oper} {Q : Exit → Act → World → Prop} {rest : List Oper} {d : Nat} {pos : String} {af : Array Edge} {w0 : World} {L : List HP} {t e sz by_ : Nat} {z : Value} {v0 v1 v2 : Value} {x0 x1 x2 : Operand} (hd : Nat.blt d n.sz = true) [ht : SlT P t e sz by_ z] (hx0 : ev s x0 = some v0) (hx1 : ev s x1 = some v1) (hx2 : ev s x2 = some v2) {r0 r1 r2 : List Value} (hr0 : v0.cells.toList = r0) (hr1 : v1.cells.toList = r1) (hr2 : v2.cells.toList = r2) (hz0 : r0.length = sz) (hz1 : r1.length = sz) (hz2 : r2.length = sz) (hb : Nat.ble (3 * sz) 16777216 = true)
    (k : ∀ b, T P ops Q rest n ((d, .slice (some ⟨b, 0, none⟩) 3 3) :: s) (St w0 (own e sz (some ⟨b, 0, none⟩) 3 3 [r0, r1, r2] :: L))) : T P ops Q (⟨some d, .buildSlice t 3 #[(0, x0), (1, x1), (2, x2)], ty, pos, af, none⟩ :: rest) n s (St w0 L) :=
  T.act hd (Ac.lit3 hx0 hx1 hx2 hr0 hr1 hr2 hz0 hz1 hz2 hb) k
theorem Ac.lit4 {w0 : World} {L : List HP} {t e sz by_ : Nat} {z : Value} {v0 v1 v2 v3 : Value} {x0 x1 x2 x3 : Operand} [ht : SlT P t e sz by_ z] (hx0 : ev s x0 = some v0) (hx1 : ev s x1 = some v1) (hx2 : ev s x2 = some v2) (hx3 : ev s x3 = some v3) {r0 r1 r2 r3 : List Value} (hr0 : v0.cells.toList = r0) (hr1 : v1.cells.toList = r1) (hr2 : v2.cells.toList = r2) (hr3 : v3.cells.toList = r3) (hz0 : r0.length = sz) (hz1 : r1.length = sz) (hz2 : r2.length = sz) (hz3 : r3.length = sz) (hb : Nat.ble (4 * sz) 16777216 = true) :
    Ac P n s (St w0 L) (.buildSlice t 4 #[(0, x0), (1, x1), (2, x2), (3, x3)]) ty (ι := Nat) (fun b => .slice (some ⟨b, 0, none⟩) 4 4) (fun b => St w0 (own e sz (some ⟨b, 0, none⟩) 4 4 [r0, r1, r2, r3] :: L)) := by
  have hb := Nat.le_of_ble_eq_true hb
  refine Ac.lit (ps := [(0, x0), (1, x1), (2, x2), (3, x3)]) (xs := [x0, x1, x2, x3]) (vs := [v0, v1, v2, v3]) rfl (by simp [evs, hx0, hx1, hx2, hx3]) ?_ (by simpa using hb) rfl (by simp [hr0, hr1, hr2, hr3])
  intro u hu
  have hl : ∀ (v : Value) (r : List Value), v.cells.toList = r → r.length = sz → v.cells.size = sz := fun v r h1 h2 => by rw [← h2, ← h1, Array.length_toList]
  simp only [List.mem_cons, List.not_mem_nil, or_false] at hu
  rcases hu with rfl | rfl | rfl | rfl
  · exact hl _ _ hr0 hz0
  · exact hl _ _ hr1 hz1
  · exact hl _ _ hr2 hz2
  · exact hl _ _ hr3 hz3
theorem T.lit4 {ops : Array Oper} {Q : Exit → Act → World → Prop} {rest : List Oper} {d : Nat} {pos : String} {af : Array Edge} {w0 : World} {L : List HP} {t e sz by_ : Nat} {z : Value} {v0 v1 v2 v3 : Value} {x0 x1 x2 x3 : Operand} (hd : Nat.blt d n.sz = true) [ht : SlT P t e sz by_ z] (hx0 : ev s x0 = some v0) (hx1 : ev s x1 = some v1) (hx2 : ev s x2 = some v2) (hx3 : ev s x3 = some v3) {r0 r1 r2 r3 : List Value} (hr0 : v0.cells.toList = r0) (hr1 : v1.cells.toList = r1) (hr2 : v2.cells.toList = r2) (hr3 : v3.cells.toList = r3) (hz0 : r0.length = sz) (hz1 : r1.length = sz) (hz2 : r2.length = sz) (hz3 : r3.length = sz) (hb : Nat.ble (4 * sz) 16777216 = true)
    (k : ∀ b, T P ops Q rest n ((d, .slice (some ⟨b, 0, none⟩) 4 4) :: s) (St w0 (own e sz (some ⟨b, 0, none⟩) 4 4 [r0, r1, r2, r3] :: L))) : T P ops Q (⟨some d, .buildSlice t 4 #[(0, x0), (1, x1), (2, x2), (3, x3)], ty, pos, af, none⟩ :: rest) n s (St w0 L) :=
  T.act hd (Ac.lit4 hx0 hx1 hx2 hx3 hr0 hr1 hr2 hr3 hz0 hz1 hz2 hz3 hb) k
/-- an index that is an integer -/
theorem Ev.indexAddrZ {x y : Operand} {t e sz by_ : Nat} {z0 : Value} {A : Option Addr} {m c : Nat} {z : Int} {k : IntKind} [ht : SlT P t e sz by_ z0] (hx : ev s x = some (.slice A m c)) (hy : ev s y = some (.int k z))
    (h0 : 0 ≤ z) (hi : z.toNat < m) (hA : ∀ w, M w → A = some (A.getD default)) : Ev P n s M (.indexAddr t x y) ty (.pointer (some ((A.getD default).add (z.toNat * sz)))) := by
  have e : ((z.toNat : Nat) : Int) = z := by omega
  rw [← e] at hy
  exact Ev.indexAddr hx hy hi hA
/-- a call of a function value -/
theorem T.callFV {ops : Array Oper} {Q : Exit → Act → World → Prop} {rest : List Oper} {w0 : World} {L : List HP} {d : Nat} {pos : String} {af : Array Edge} {v : Value} {x : Operand} {f : FuncId} {xs : List Operand} {vs : List Value} {tys : Array TypeId} (hd : Nat.blt d n.sz = true) [hf' : CF P f]
    (hx : ev s x = some (.func (.func f) #[] #[])) (hxs : evs s xs = some vs) (h : ∀ w, St w0 L w → Calls P f vs.toArray w (RetV w v)) (k : T P ops Q rest n ((d, v) :: s) (St w0 L)) :
    T P ops Q (⟨some d, .call { callee := .value x, args := xs.toArray, argTypes := tys }, ty, pos, af, none⟩ :: rest) n s (St w0 L) := by
  refine T.cl (val := fun _ : Unit => v) (M' := fun _ => St w0 L) hd ⟨f, vs.toArray, fun a w o ho _ hf _ => ?_, fun w hm => (h w hm).mono ?_⟩ (fun _ => k)
  · have h1 := evs_eq hf hxs
    simp [execOp, ho, resolve, Deferred.ofValue, hf.ev hx, invoke, hf'.run _ w, h1]
  · rintro e w' ⟨he, hb⟩
    exact ⟨(), he, hm.grow (Chg.of_below hb)⟩
end
end Go.Sl
