/-
  Comparing sets (arrays of four words); the table of counts.
-/
import Derived.Test.YtalnmednhhimhaaDoorFacts
import Derived.Test.YtalnmednhhimhaaDoorRep
set_option linter.all false
namespace Go.Proofs.YtalnmednhhimhaaDoor
open Go Go.Sl Go.RowKit Go.Bonsai
set_option linter.unusedVariables false
set_option linter.unusedSimpArgs false

theorem bts_eq (a0 a1 a2 a3 b0 b1 b2 b3 : Int) (w : World) : (Op.equalIn 10000 52 (.agg #[.int .u64 a0, .int .u64 a1, .int .u64 a2, .int .u64 a3]) (.agg #[.int .u64 b0, .int .u64 b1, .int .u64 b2, .int .u64 b3])).run Tryd.prog w =
    .ok (decide ((⟨a0, a1, a2, a3⟩ : Bts) = ⟨b0, b1, b2, b3⟩)) w := by
  have h1 : ∀ (a b : Int) w, (Op.equalIn 9999 50 (.int .u64 a) (.int .u64 b)).run Tryd.prog w = .ok (a == b) w := fun a b w => run_equalIn_int w 9998 _ _ _ a b Tryd.underlying50
  have h2 : (sizeOf 50).run Tryd.prog w = .ok 1 w := by
    obtain ⟨i, hi, hk⟩ := (inferInstance : SZ Tryd.prog 50 1).info
    simp [sizeOf, typeInfo, hi, hk]
  have h3 : ∀ w, (isAgg 50).run Tryd.prog w = .ok false w := fun w => by simp [isAgg, run_underlying Tryd.underlying50]
  show (Op.equalIn (9999 + 1) _ _ _).run _ _ = _
  rw [Op.equalIn]
  simp only [Sem.run_bind, run_underlying Tryd.underlying52, Result.andThen_ok, h2]
  simp only [Std.Legacy.Range.forIn_eq_forIn_range', Std.Legacy.Range.size]
  simp [List.range', part, h1, h3]
  by_cases e0 : a0 = b0 <;> by_cases e1 : a1 = b1 <;> by_cases e2 : a2 = b2 <;> by_cases e3 : a3 = b3 <;> simp [e0, e1, e2, e3]

theorem Ev.bts_eql {n : FD} {s : Sg} {M : World → Prop} {ty u : TypeId} {x y : Operand} {a b : Bts} (hx : ev s x = some (.agg a.vals.toArray)) (hy : ev s y = some (.agg b.vals.toArray)) :
    Ev Tryd.prog n s M (.binOp .eql 52 x y u) ty (.bool (decide (a = b))) := by
  refine ⟨fun ac w o ho ht hf hm => ?_⟩
  have hg : Tryd.prog.eqGuardType Tryd.prog.depth 52 = false := by kernel_rfl
  have h := bts_eq a.a a.b a.c a.d b.a b.b b.c b.d w
  simp only [execOp, ho, hf.ev hx, hf.ev hy, Bts.vals]
  obtain ⟨a0, a1, a2, a3⟩ := a
  obtain ⟨b0, b1, b2, b3⟩ := b
  simp [run_eqGuard_agg w _ _ _ _ _ _ hg, run_eql_struct, h]

/-- the table of counts, as cells -/
def tabCells : List Value := [.int .i64 0, .int .i64 0, .int .i64 0, .int .i64 0, .int .i64 0, .int .i64 0, .int .i64 0, .int .i64 0, .int .i64 2, .int .i64 (-1), .int .i64 2, .int .i64 (-1), .int .i64 1, .int .i64 1, .int .i64 1, .int .i64 1, .int .i64 1, .int .i64 1, .int .i64 1, .int .i64 1]
def Tab (w : World) : Prop := ∀ (i : Nat) v, tabCells[i]? = some v → w.cell? ⟨0, i, none⟩ = some v
theorem Tab.st {w0 w : World} {L : List HP} (h : Tab w0) (hs : St w0 L w) : Tab w := fun i v hi => hs.old_cell (h i v hi)
theorem Ev.tab {n : FD} {s : Sg} {w0 : World} {L : List HP} {ty t : TypeId} {x : Operand} {i : Nat} {v : Value} [L1 Tryd.prog t] (hx : ev s x = some (.pointer (some ⟨0, i, none⟩))) (hT : Tab w0) (hv : tabCells[i]? = some v) :
    Ev Tryd.prog n s (St w0 L) (.load t x) ty v := Ev.load1 hx (fun w hw => hw.old_cell (hT i v hv))
end Go.Proofs.YtalnmednhhimhaaDoor
