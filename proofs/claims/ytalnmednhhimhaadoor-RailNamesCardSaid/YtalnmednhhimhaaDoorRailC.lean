/-
  Package set and Class, walked; what a tree draws, pure; Draw, walked.
-/
import Derived.Test.YtalnmednhhimhaaDoorRange
import Derived.Test.YtalnmednhhimhaaDoorRailB
import Derived.Test.YtalnmednhhimhaaDoorGen
import Derived.Laws.Bits64b
import Derived.Lib.TrailingZeros
import Derived.Test.YtalnmednhhimhaaDoorDepth
set_option linter.all false
/- Operations on words of 64 bits, arrays by value; loops over a function of one parameter. -/
namespace Go.Sl
open Go.RowKit
set_option linter.unusedVariables false
section
variable {P : Program} {n : FD} {s : Sg} {M : World → Prop} {ty : TypeId}
theorem u64_in {a : Nat} (h : a < 18446744073709551616) : IntKind.u64.wrap (a : Int) = (a : Int) := by rw [IntKind.wrap_u64]; omega
theorem Ev.and64 {x y : Operand} {t u : TypeId} {a b : Nat} (hx : ev s x = some (.int .u64 (a : Int))) (hy : ev s y = some (.int .u64 (b : Int))) (ha : a < 18446744073709551616) (hb : b < 18446744073709551616) : Ev P n s M (.binOp .and t x y u) ty (.int .u64 ((a &&& b : Nat) : Int)) := by
  refine ⟨fun ac w o ho ht hf hm => ?_⟩
  have hl : a &&& b < 2 ^ 64 := Nat.and_lt_two_pow _ (by omega)
  have h1 : (BitVec.ofInt 64 (a : Int)).toNat = a := by
    rw [BitVec.ofInt_natCast, BitVec.toNat_ofNat]; exact Nat.mod_eq_of_lt (by omega)
  have h2 : (BitVec.ofInt 64 (b : Int)).toNat = b := by
    rw [BitVec.ofInt_natCast, BitVec.toNat_ofNat]; exact Nat.mod_eq_of_lt (by omega)
  have h3 : IntKind.u64.wrap ((BitVec.ofInt 64 (a : Int) &&& BitVec.ofInt 64 (b : Int)).toNat : Int) = ((a &&& b : Nat) : Int) := by
    rw [BitVec.toNat_and, h1, h2]; exact u64_in hl
  have h : (Op.intBits .and .u64 (a : Int) (b : Int)).run P w = .ok (.int .u64 ((a &&& b : Nat) : Int)) w := by
    rw [← h3]; rfl
  simp [execOp, ho, hf.ev hx, hf.ev hy, eqGuard, binOp, h]
theorem Ev.not64 {x : Operand} {t : TypeId} {a : Nat} (hx : ev s x = some (.int .u64 (a : Int))) (ha : a < 18446744073709551616) : Ev P n s M (.unOp .xor t x) ty (.int .u64 ((18446744073709551615 - a : Nat) : Int)) := by
  refine ⟨fun ac w o ho ht hf hm => ?_⟩
  have h1 : (BitVec.ofInt 64 (a : Int)) = BitVec.ofNat 64 a := by rw [BitVec.ofInt_natCast]
  have h2 : (BitVec.ofInt 64 18446744073709551615) = BitVec.allOnes 64 := by decide
  have h3 : IntKind.u64.wrap ((BitVec.ofInt 64 18446744073709551615 ^^^ BitVec.ofInt 64 (a : Int)).toNat : Int) = ((18446744073709551615 - a : Nat) : Int) := by
    rw [h1, h2, BitVec.xor_comm, BitVec.xor_allOnes, BitVec.toNat_not, BitVec.toNat_ofNat, Nat.mod_eq_of_lt (by omega)]
    exact u64_in (by omega)
  have h : (Op.unary .xor (.int .u64 (a : Int))).run P w = .ok (.int .u64 ((18446744073709551615 - a : Nat) : Int)) w := by
    rw [← h3]; rfl
  simp [execOp, ho, hf.ev hx, h]
theorem Ev.sub64 {x y : Operand} {t u : TypeId} {a b : Nat} (hx : ev s x = some (.int .u64 (a : Int))) (hy : ev s y = some (.int .u64 (b : Int))) (hb : b ≤ a) (ha : a < 18446744073709551616) : Ev P n s M (.binOp .sub t x y u) ty (.int .u64 ((a - b : Nat) : Int)) := by
  refine ⟨fun ac w o ho ht hf hm => ?_⟩
  have h : IntKind.u64.wrap ((a : Int) - (b : Int)) = ((a - b : Nat) : Int) := by rw [IntKind.wrap_u64]; omega
  simp [execOp, ho, hf.ev hx, hf.ev hy, eqGuard, binOp, Op.intArith, h]
theorem Ev.neg64 {x : Operand} {t : TypeId} {a : Nat} (hx : ev s x = some (.int .u64 (a : Int))) (h0 : a ≠ 0) (ha : a < 18446744073709551616) : Ev P n s M (.unOp .neg t x) ty (.int .u64 ((18446744073709551616 - a : Nat) : Int)) := by
  refine ⟨fun ac w o ho ht hf hm => ?_⟩
  have h : IntKind.u64.wrap (0 - (a : Int)) = ((18446744073709551616 - a : Nat) : Int) := by rw [IntKind.wrap_u64]; omega
  have h' : IntKind.u64.wrap (-(a : Int)) = ((18446744073709551616 - a : Nat) : Int) := by rw [IntKind.wrap_u64]; omega
  simp [execOp, ho, hf.ev hx, Op.unary, Op.intArith, h']
theorem Ev.mul64 {x y : Operand} {t u : TypeId} {a b : Nat} (hx : ev s x = some (.int .u64 (a : Int))) (hy : ev s y = some (.int .u64 (b : Int))) : Ev P n s M (.binOp .mul t x y u) ty (.int .u64 ((a * b % 18446744073709551616 : Nat) : Int)) := by
  refine ⟨fun ac w o ho ht hf hm => ?_⟩
  have h : IntKind.u64.wrap ((a : Int) * (b : Int)) = ((a * b % 18446744073709551616 : Nat) : Int) := by rw [IntKind.wrap_u64, ← Int.natCast_mul]; omega
  simp [execOp, ho, hf.ev hx, hf.ev hy, eqGuard, binOp, Op.intArith, h]
theorem Ev.shr58 {x y : Operand} {t u : TypeId} {a : Nat} (hx : ev s x = some (.int .u64 (a : Int))) (hy : ev s y = some (.int .u64 58)) : Ev P n s M (.binOp .shr t x y u) ty (.int .u64 ((a / 288230376151711744 : Nat) : Int)) := by
  refine ⟨fun ac w o ho ht hf hm => ?_⟩
  have h1 : (a : Int).fdiv (2 ^ 58) = ((a / 288230376151711744 : Nat) : Int) := by
    rw [Int.fdiv_eq_ediv_of_nonneg _ (by omega)]; rfl
  have h : (Op.shift .shr .u64 (a : Int) .u64 58).run P w = .ok (.int .u64 ((a / 288230376151711744 : Nat) : Int)) w := by
    rw [← h1]; rfl
  simp [execOp, ho, hf.ev hx, hf.ev hy, eqGuard, binOp, h]
/-- an element of an array by value, of one cell -/
class AE (P : Program) (t : Nat) (len : outParam Nat) : Prop where
  run : ∀ (cs : Array Value) (v : Value) (i : Nat) (k : IntKind) (w : World), i < len → cs[i]? = some v → (Instr.index t (.agg cs) (.int k (i : Int))).run P w = .ok v w
theorem AE.of {t len e : Nat} {d : TypeDesc} (hu : P.underlying t = some (.array len e)) (hs : (P.info? e).map (·.size) = some 1) (hd : P.underlying e = some d) (hd' : (match d with | .struct _ | .array _ _ => true | _ => false) = false) : AE P t len := by
  refine ⟨fun cs v i k w hi hv => ?_⟩
  obtain ⟨⟨inf, h1, h2⟩⟩ := SZ.of hs
  cases d <;> simp at hd' <;> simp [Instr.index, asIntOf, run_underlying hu, hi, sizeOf, typeInfo, h1, h2, part, isAgg, run_underlying hd, hv]
theorem Ev.arr_index {x y : Operand} {t len i : Nat} {k : IntKind} {cs : Array Value} {v : Value} [h : AE P t len] (hx : ev s x = some (.agg cs)) (hy : ev s y = some (.int k (i : Int))) (hi : i < len) (hv : cs[i]? = some v) : Ev P n s M (.index t x y) ty v := by
  refine ⟨fun ac w o ho ht hf hm => ?_⟩
  simp [execOp, ho, hf.ev hx, hf.ev hy, h.run cs v i k w hi hv]
end
/-! ### The walk within a fence: branches, guards, calls -/
section
variable {F : Fence} [FW F] {m : Nat} {P : Program} {ops : Array Oper} {Q : Exit → Act → World → Prop} {rest : List Oper} {n : FD} {s : Sg} {M : World → Prop}
  {op : Op} {ty : TypeId} {pos : String} {af : Array Edge} {d j : Nat} {v : Value} {c c1 c2 : Code} {id : Nat}
theorem TCF.seq (k : TCF F m P c1 (Exit.then (c2.wpIn F m P Q) Q) n s M) : TCF F m P (.seq c1 c2) Q n s M := ⟨fun a w hf hm => wpIn_seq (k.go a w hf hm)⟩
theorem TCF.skip (k : TX Q .normal n s M) : TCF F m P .skip Q n s M := ⟨fun a w hf hm => wpIn_skip (k.go a w hf hm)⟩
theorem TCF.exit (k : TX Q (.exit id) n s M) : TCF F m P (.exit id) Q n s M := ⟨fun a w hf hm => wpIn_exit (k.go a w hf hm)⟩
theorem TCF.cond_t {x : Operand} {b : Bool} (hx : ev s x = some (.bool b)) (hb : b = true) (k : TCF F m P c1 Q n s M) : TCF F m P (.cond x c1 c2) Q n s M :=
  ⟨fun a w hf hm => wpIn_cond_true (by rw [hf.ev hx, hb]) (k.go a w hf hm)⟩
theorem TCF.cond_f {x : Operand} {b : Bool} (hx : ev s x = some (.bool b)) (hb : b = false) (k : TCF F m P c2 Q n s M) : TCF F m P (.cond x c1 c2) Q n s M :=
  ⟨fun a w hf hm => wpIn_cond_false (by rw [hf.ev hx, hb]) (k.go a w hf hm)⟩
theorem TX.thenF (k : TCF F m P c2 Q n s M) {Q' : Exit → Act → World → Prop} : TX (Exit.then (c2.wpIn F m P Q) Q') .normal n s M := ⟨fun a w hf hm => k.go a w hf hm⟩
theorem TF.guard_yes {dst : Option Nat} {dj : Nat} {want b : Bool} (hj : gd ops j = some dj) (hn : Nat.blt dj n.sz = true) (hb : lk s dj = some (.bool b)) (hw : b = want)
    (k : TF F m P ops Q (⟨dst, op, ty, pos, af, none⟩ :: rest) n s M) : TF F m P ops Q (⟨dst, op, ty, pos, af, some (j, want)⟩ :: rest) n s M := by
  refine ⟨fun a w hf hm => ?_⟩
  have h := k.go a w hf hm
  simp only [wpListIn] at h ⊢
  rw [if_pos (by simp only [Region.wanted, yielded_of hj hf hb hn, hw]; simp)]
  rw [if_pos (by simp [Region.wanted])] at h
  exact h
theorem TF.guard_no {dj : Nat} {want b : Bool} (hd : Nat.blt d n.sz = true) (hj : gd ops j = some dj) (hn : Nat.blt dj n.sz = true) (hb : lk s dj = some (.bool b)) (hw : b = !want)
    (k : TF F m P ops Q rest n ((d, undef) :: s) M) : TF F m P ops Q (⟨some d, op, ty, pos, af, some (j, want)⟩ :: rest) n s M := by
  refine ⟨fun a w hf hm => ?_⟩
  simp only [wpListIn]
  rw [if_neg (by simp only [Region.wanted, yielded_of hj hf hb hn, hw]; cases want <;> simp)]
  exact ⟨fun f _ => FW.fn f, k.go _ _ (hf.put hd undef) hm⟩
theorem TF.callV {w0 : World} {L : List HP} {f : FuncId} {xs : List Operand} {vs : List Value} {tys : Array TypeId} (hd : Nat.blt d n.sz = true) [hf' : CF P f] (hxs : evs s xs = some vs)
    (h : ∀ w, St w0 L w → Calls P f vs.toArray w (RetV w v)) (k : TF Fence.wide m P ops Q rest n ((d, v) :: s) (St w0 L)) :
    TF Fence.wide m P ops Q (⟨some d, .call { callee := .value (.func f), args := xs.toArray, argTypes := tys }, ty, pos, af, none⟩ :: rest) n s (St w0 L) := by
  refine ⟨fun a w hf hm => ?_⟩
  refine wpListIn_plain rfl fun K hK => ⟨fun f _ => trivial, ?_⟩
  rw [semAt_of Fence.wide (op_call hxs (o := ⟨some d, .call { callee := .value (.func f), args := xs.toArray, argTypes := tys }, ty, pos, af, none⟩) rfl hf) nofun]
  refine ⟨fun hs => by simp [Fence.wide] at hs, callsIn_wide.2 ((h w hm).mono ?_)⟩
  rintro e w' ⟨rfl, hb⟩
  exact hK _ _ (k.go _ _ (hf.put hd _) (hm.grow (Chg.of_below hb)))
theorem Fr.zip1 {N : Nat} {ds : List Deferred} {a : Act} {p1 : Nat} {v1 : Value} (hf : Fr ⟨N, ds⟩ s a) (h1 : Nat.blt p1 N = true) :
    Fr ⟨N, []⟩ ((p1, v1) :: s) { tmps := ((#[p1] : Array Tmp).zip #[v1]).foldl (fun t (p, v) => t.setIfInBounds p v) a.tmps, defers := [] } := by
  have hf0 : Fr ⟨N, []⟩ s { a with defers := [] } := ⟨hf.size, rfl, hf.get⟩
  have h3 := hf0.put (d := p1) h1 v1
  have e : ((#[p1] : Array Tmp).zip #[v1]) = #[(p1, v1)] := by simp [Array.zip, Array.zipWith, Array.zipWithMAux]
  rw [e]
  exact h3
/-- `for k := range f { .. }`, f a function value of one parameter that hands on xs one by one, and nothing but it -/
theorem TC.range1 {N : Nat} {ds : List Deferred} {g : Operand} {gf : Nat} {lb : Array Value} {p1 : Nat} {assign body : Code} {w0 : World} {L : List HP} {e1 : Nat → Value} {K : Nat} [hgf : CF P gf]
    (hg : ev s g = some (.func (.func gf) #[] lb)) (h1 : Nat.blt p1 N = true) (LB : Nat → List HP) (h0 : ∀ w, St w0 L w → St w0 (LB 0) w)
    (hiter : ∀ (l : Nat) (rec : Obj) (D : Nat) (W : World), (∀ k, k < K → ∀ W, St w0 (obj l rec :: obj D (.deferred (some [])) :: LB k) W → YieldAt Fence.wide 8 P l #[e1 k] W (fun e W' => e = .returned (.bool true) ∧ St w0 (obj l rec :: obj D (.deferred (some [])) :: LB (k + 1)) W')) →
      St w0 (obj l rec :: obj D (.deferred (some [])) :: LB 0) W → Calls P gf (#[.func (.yield l) #[] #[]] ++ lb) W (fun e W' => ∃ v, e = .returned v ∧ St w0 (obj l rec :: obj D (.deferred (some [])) :: LB K) W'))
    (hround : ∀ k, k < K → ∀ (l D : Nat) (r1 r2 : Obj) (R : Act → World → Prop), (∀ s1, (TCF (Fence.wide.inRound l) 8 P body (fun e _ w => e = .normal ∧ St w0 (obj l r2 :: obj D (.deferred (some [])) :: LB (k + 1)) w) ⟨N, []⟩ s1 (St w0 (obj l r2 :: obj D (.deferred (some [])) :: LB k))) → ∀ a w, Fr ⟨N, []⟩ s1 a → St w0 (obj l r1 :: obj D (.deferred (some [])) :: LB k) w → R a w) →
      TCF (Fence.wide.inRound l) 8 P assign (Exit.then R (fun _ _ _ => False)) ⟨N, []⟩ ((p1, e1 k) :: s) (St w0 (obj l r1 :: obj D (.deferred (some [])) :: LB k)))
    (k : ∀ D, TX Q .normal ⟨N, { target := .collected D, args := #[] } :: ds⟩ s (St w0 (obj D (.deferred (some [])) :: LB K))) :
    TC P (.rangeFunc g #[p1] assign body) Q ⟨N, ds⟩ s (St w0 L) := by
  refine ⟨fun a w hf hm => (wpIn_wide (n := 9)).1 ?_⟩
  refine wpIn_rangeFunc ?_
  intro fn hfn
  obtain ⟨rec, hrec⟩ : ∃ rec : LoopState → Option Code → Loop, rec = fun st pe => { state := st, pending := pe, fn, tmps := a.tmps, params := #[p1], assign, body, defers := w.heap.size } := ⟨_, rfl⟩
  obtain ⟨W1, hW1⟩ : ∃ W1, (w.alloc (.deferred (some []))).alloc (.loop (rec .ready none)) = W1 := ⟨_, rfl⟩
  have hs1 : St w0 (obj (w.heap.size + 1) (.loop (rec .ready none)) :: obj w.heap.size (.deferred (some [])) :: LB 0) W1 := by
    have h := ((h0 w hm).newObj (.deferred (some []))).newObj (.loop (rec .ready none))
    rw [World.size_alloc, hW1] at h
    exact h
  refine ⟨w.heap.size + 1, [{ target := .collected w.heap.size, args := #[] }], W1, { target := .fn (.func gf) lb, args := #[.func (.yield (w.heap.size + 1)) #[] #[]] }, W1, gf,
    #[.func (.yield (w.heap.size + 1)) #[] #[]] ++ lb, W1, ?_, ?_, fun _ _ => trivial, ?_, fun _ => by omega, ?_⟩
  · rw [← hW1, hrec]; exact run_enterLoop_outer _ _ _ _ _
  · have := hf.ev hg
    simp only [resolve, rangeCall]
    rw [this]
    simp [Deferred.ofValue, Act.eval]
  · simp [invoke, hgf.run]
  · refine callsIn_wide.2 ((hiter (w.heap.size + 1) (.loop (rec .ready none)) w.heap.size W1 ?_ hs1).mono ?_)
    · intro k hk W hW
      have hl := hW.obj_heap At.here
      have hlt : w.heap.size + 1 < W.heap.size := (Array.getElem?_eq_some_iff.1 hl).1
      have hy := run_yield (P := P) (args := #[e1 k]) hl (by rw [hrec]; rfl)
      rw [hrec] at hy
      refine ⟨fn, _, assign, body, hy, roundIn_of_wpIn hfn ?_⟩
      refine (hround k hk (w.heap.size + 1) w.heap.size (.loop (rec .ready none)) (.loop { rec .ready none with state := .busy }) _ ?_).go _ W (hf.zip1 h1) hW
      intro s1 hb a1 W2 hf1 hW2
      have hl2 := hW2.obj_heap At.here
      refine ⟨_, run_beginRound hl2 (by rw [hrec]), ?_⟩
      refine wpIn_mono (hb.go a1 _ hf1 (hW2.putObj .here)) ?_
      rintro e a3 W3 ⟨rfl, hW3⟩
      have hl3 := hW3.obj_heap At.here
      have := run_endRound (P := P) none hl3
      rw [hrec] at this hW3
      refine ⟨_, _, this, rfl, ?_⟩
      rw [hrec]
      exact hW3.putObj .here
    · rintro e W2 ⟨v, rfl, hW2⟩
      have hl := hW2.obj_heap At.here
      have := run_endLoop (P := P) hl (by rw [hrec]; simp)
      rw [hrec] at this
      refine ⟨none, _, this, ?_⟩
      have hd := hf.defers
      simp only at hd
      have h5 : St w0 (obj w.heap.size (.deferred (some [])) :: LB K) (W2.putObj (w.heap.size + 1) (.loop { rec .ready none with state := .exhausted })) := (hW2.putObj (o' := .loop { rec .ready none with state := .exhausted }) .here).drop 1
      rw [hrec] at h5
      exact (k w.heap.size).go _ _ ⟨hf.size, by simp [hd], hf.get⟩ h5
end
end Go.Sl
/- Sets of bytes, pure: the bytes of a set, rising, its runs, and a class's text. -/
namespace Go.Bonsai
open Go
/-- the bits of a word, rising -/
def bitsL (x : Nat) : List Nat := (List.range 64).filter fun i => x.testBit i
theorem bitsL_zero : bitsL 0 = [] := by simp [bitsL]
theorem filter_least {p : Nat → Bool} {n k : Nat} (hk : k < n) (hp : p k = true) (hl : ∀ i, i < k → p i = false) : (List.range n).filter p = k :: (List.range n).filter (fun i => p i && !decide (i = k)) := by
  obtain ⟨d, rfl⟩ : ∃ d, n = k + (d + 1) := ⟨n - k - 1, by omega⟩
  have e : List.range (k + (d + 1)) = List.range k ++ k :: (List.range' (k + 1) d) := by
    rw [List.range_eq_range', List.range_eq_range', ← List.range'_append_1]
    simp [List.range'_succ]
  have h1 : (List.range k).filter p = [] := List.filter_eq_nil_iff.2 (fun i hi => by rw [hl i (List.mem_range.1 hi)]; simp)
  have h2 : (List.range k).filter (fun i => p i && !decide (i = k)) = [] := List.filter_eq_nil_iff.2 (fun i hi => by rw [hl i (List.mem_range.1 hi)]; simp)
  have h3 : (List.range' (k + 1) d).filter p = (List.range' (k + 1) d).filter (fun i => p i && !decide (i = k)) := List.filter_congr (fun i hi => by
    have := (List.mem_range'_1.1 hi).1
    have hne : i ≠ k := by omega
    simp [hne])
  rw [e, List.filter_append, List.filter_append, List.filter_cons, List.filter_cons, h1, h2, h3]
  simp [hp]
theorem bit_next {x k m : Nat} (hx : x = 2 ^ k * (2 * m + 1)) (i : Nat) : (x &&& (x - 1)).testBit i = (x.testBit i && !decide (i = k)) := by
  have hpos : 0 < 2 ^ k := Nat.two_pow_pos k
  have e1 : x = 2 ^ k * (2 * m + 1) + 0 := by omega
  have e2 : x - 1 = 2 ^ k * (2 * m) + (2 ^ k - 1) := by rw [hx, Nat.mul_add]; omega
  rw [Nat.testBit_and, e2, e1, Nat.testBit_two_pow_mul_add _ hpos, Nat.testBit_two_pow_mul_add _ (by omega)]
  by_cases h : i < k
  · simp [h]
  · rw [if_neg h, if_neg h]
    by_cases he : i = k
    · subst he
      simp
    · obtain ⟨j, hj⟩ : ∃ j, i - k = j + 1 := ⟨i - k - 1, by omega⟩
      rw [hj, Nat.testBit_succ, Nat.testBit_succ]
      have d1 : (2 * m + 1) / 2 = m := by omega
      have d2 : 2 * m / 2 = m := by omega
      rw [d1, d2]
      simp [he]
theorem bitsL_next {x : Nat} (h0 : x ≠ 0) (h : x < 18446744073709551616) : bitsL x = Lib.ctz 64 x :: bitsL (x &&& (x - 1)) ∧ Lib.ctz 64 x < 64 := by
  obtain ⟨m, hm, hk⟩ := Lib.ctzFrom_spec 64 x (by omega) h
  have e : Lib.ctz 64 x = Lib.ctzFrom 64 x := by simp [Lib.ctz, h0]
  rw [e]
  generalize Lib.ctzFrom 64 x = k at *
  refine ⟨?_, hk⟩
  have hb : ∀ i, x.testBit i = if i < k then false else (2 * m + 1).testBit (i - k) := fun i => by
    have e1 : x = 2 ^ k * (2 * m + 1) + 0 := by omega
    rw [e1, Nat.testBit_two_pow_mul_add _ (Nat.two_pow_pos k)]
    simp
  unfold bitsL
  rw [filter_least (p := fun i => x.testBit i) hk (by rw [hb]; simp) (fun i hi => by rw [hb, if_pos hi])]
  congr 1
  exact List.filter_congr (fun i _ => (bit_next hm i).symm)
theorem and_pred_lt {x : Nat} (h0 : x ≠ 0) : x &&& (x - 1) < x := by
  have : x &&& (x - 1) ≤ x - 1 := Nat.and_le_right
  omega
theorem bitsL_lt {x b : Nat} (h : b ∈ bitsL x) : b < 64 := List.mem_range.1 (List.mem_filter.1 h).1
theorem bitsL_len (x : Nat) : (bitsL x).length ≤ 64 := by
  have := List.length_filter_le (fun i => x.testBit i) (List.range 64)
  rw [List.length_range] at this
  exact this
def Bts.ws (s : Bts) : List Nat := [s.a.toNat, s.b.toNat, s.c.toNat, s.d.toNat]
/-- the bytes of words, from the i-th on -/
def bytesW : Nat → List Nat → List Nat
  | _, [] => []
  | i, x :: l => (bitsL x).map (fun b => i * 64 + b) ++ bytesW (i + 1) l
def bytesL (s : Bts) : List Nat := bytesW 0 s.ws
theorem bytesW_lt : ∀ (l : List Nat) (i : Nat), ∀ b ∈ bytesW i l, b < (i + l.length) * 64
  | [], _, b, h => by cases h
  | x :: l, i, b, h => by
    rw [List.length_cons]
    rcases List.mem_append.1 h with h | h
    · obtain ⟨c, hc, rfl⟩ := List.mem_map.1 h
      have := bitsL_lt hc
      have e : (i + (l.length + 1)) * 64 = i * 64 + l.length * 64 + 64 := by rw [Nat.add_mul, Nat.add_mul]; omega
      omega
    · have := bytesW_lt l (i + 1) b h
      have e : i + 1 + l.length = i + (l.length + 1) := by omega
      rwa [e] at this
theorem bytesL_lt {s : Bts} {b : Nat} (h : b ∈ bytesL s) : b < 256 := by
  have := bytesW_lt s.ws 0 b h
  simpa [Bts.ws] using this
theorem bytesW_len : ∀ (l : List Nat) (i : Nat), (bytesW i l).length ≤ 64 * l.length
  | [], _ => by simp [bytesW]
  | x :: l, i => by
    have h1 := bitsL_len x
    have h2 := bytesW_len l (i + 1)
    simp only [bytesW, List.length_append, List.length_map, List.length_cons]
    omega
theorem bytesL_len (s : Bts) : (bytesL s).length ≤ 256 := bytesW_len s.ws 0
/-- runs, and a byte more -/
def runAdd (l : List (Nat × Nat)) (b : Nat) : List (Nat × Nat) := match l.getLast? with
  | some r => if r.2 + 1 = b then l.dropLast ++ [(r.1, b)] else l ++ [(b, b)]
  | none => [(b, b)]
def runsL (s : Bts) : List (Nat × Nat) := (bytesL s).foldl runAdd []
theorem runAdd_snoc (l : List (Nat × Nat)) (r : Nat × Nat) (b : Nat) : runAdd (l ++ [r]) b = if r.2 + 1 = b then l ++ [(r.1, b)] else l ++ [r] ++ [(b, b)] := by
  unfold runAdd
  rw [List.getLast?_concat, List.dropLast_concat]
theorem runAdd_nil (b : Nat) : runAdd [] b = [(b, b)] := rfl
theorem runAdd_len (l : List (Nat × Nat)) (b : Nat) : (runAdd l b).length ≤ l.length + 1 := by
  rcases list_snoc l with rfl | ⟨l', r, rfl⟩
  · simp [runAdd_nil]
  · rw [runAdd_snoc]
    split <;> simp
def RunOk (l : List (Nat × Nat)) : Prop := ∀ r ∈ l, r.1 ≤ r.2 ∧ r.2 < 256
theorem runAdd_ok {l : List (Nat × Nat)} {b : Nat} (h : RunOk l) (hb : b < 256) : RunOk (runAdd l b) := by
  rcases list_snoc l with rfl | ⟨l', r, rfl⟩
  · intro x hx
    simp [runAdd_nil] at hx
    subst hx
    exact ⟨Nat.le_refl _, hb⟩
  · rw [runAdd_snoc]
    have hr := h r (by simp)
    split
    · intro x hx
      rcases List.mem_append.1 hx with hx | hx
      · exact h x (by simp [hx])
      · simp at hx
        subst hx
        exact ⟨by simp only; omega, hb⟩
    · intro x hx
      rcases List.mem_append.1 hx with hx | hx
      · exact h x hx
      · simp at hx
        subst hx
        exact ⟨Nat.le_refl _, hb⟩
theorem foldl_run : ∀ (bs : List Nat) (l : List (Nat × Nat)), RunOk l → (∀ b ∈ bs, b < 256) → RunOk (bs.foldl runAdd l) ∧ (bs.foldl runAdd l).length ≤ l.length + bs.length
  | [], l, h, _ => ⟨h, by simp⟩
  | b :: bs, l, h, hb => by
    obtain ⟨h1, h2⟩ := foldl_run bs (runAdd l b) (runAdd_ok h (hb b (by simp))) (fun x hx => hb x (by simp [hx]))
    have := runAdd_len l b
    exact ⟨h1, by simp only [List.foldl_cons, List.length_cons]; omega⟩
theorem runsL_ok (s : Bts) : RunOk (runsL s) ∧ (runsL s).length ≤ 256 := by
  obtain ⟨h1, h2⟩ := foldl_run (bytesL s) [] (fun r hr => by cases hr) (fun b hb => bytesL_lt hb)
  have := bytesL_len s
  exact ⟨h1, by simp only [List.length_nil] at h2; unfold runsL; omega⟩
def inClassB : ByteArray := ⟨#[93, 45, 94]⟩
def runB (r : Nat × Nat) : List UInt8 := putB inClassB r.1.toUInt8 ++ (if 1 < r.2 - r.1 then [45] else []) ++ (if r.2 ≠ r.1 then putB inClassB r.2.toUInt8 else [])
theorem runB_len (r : Nat × Nat) : (runB r).length ≤ 9 := by
  have h1 := putB_len inClassB r.1.toUInt8
  have h2 := putB_len inClassB r.2.toUInt8
  unfold runB
  simp only [List.length_append]
  split <;> split <;> simp only [List.length_nil, List.length_singleton] <;> omega
def runsB (l : List (Nat × Nat)) : List UInt8 := l.flatMap runB
theorem runsB_snoc (l : List (Nat × Nat)) (r : Nat × Nat) : runsB (l ++ [r]) = runsB l ++ runB r := by simp [runsB]
theorem runsB_len : ∀ l : List (Nat × Nat), (runsB l).length ≤ 9 * l.length
  | [] => by simp [runsB]
  | r :: l => by
    have h1 := runB_len r
    have h2 := runsB_len l
    simp only [runsB, List.flatMap_cons, List.length_append, List.length_cons] at h2 ⊢
    omega
def Bts.all : Bts := ⟨18446744073709551615, 18446744073709551615, 18446744073709551615, 18446744073709551615⟩
def classB (s : Bts) : List UInt8 := if s = .all then [46] else [91] ++ runsB (runsL s) ++ [93]
theorem classB_len (s : Bts) : (classB s).length ≤ 3000 := by
  have h1 := runsB_len (runsL s)
  have h2 := (runsL_ok s).2
  unfold classB
  split
  · simp
  · simp only [List.length_append, List.length_singleton]
    omega
end Go.Bonsai
/- Package set, walked: All, Not, each, Runs. -/
namespace Go.Sl
open Go Go.RowKit
section
variable {P : Program} {n : FD} {s : Sg} {M : World → Prop} {ty : TypeId}
theorem Ev.and64E {x y : Operand} {t u : TypeId} {a b r : Nat} (e : a &&& b = r) (hx : ev s x = some (.int .u64 (a : Int))) (hy : ev s y = some (.int .u64 (b : Int))) (ha : a < 18446744073709551616) (hb : b < 18446744073709551616) : Ev P n s M (.binOp .and t x y u) ty (.int .u64 (r : Int)) := e ▸ Ev.and64 hx hy ha hb
theorem Ev.mul64E {x y : Operand} {t u : TypeId} {a b r : Nat} (e : a * b % 18446744073709551616 = r) (hx : ev s x = some (.int .u64 (a : Int))) (hy : ev s y = some (.int .u64 (b : Int))) : Ev P n s M (.binOp .mul t x y u) ty (.int .u64 (r : Int)) := e ▸ Ev.mul64 hx hy
theorem Ev.shr58E {x y : Operand} {t u : TypeId} {a r : Nat} (e : a / 288230376151711744 = r) (hx : ev s x = some (.int .u64 (a : Int))) (hy : ev s y = some (.int .u64 58)) : Ev P n s M (.binOp .shr t x y u) ty (.int .u64 (r : Int)) := e ▸ Ev.shr58 hx hy
theorem Ev.predN {x : Operand} {t u : TypeId} {k : Nat} (hx : ev s x = some (.int .i64 ((k + 1 : Nat) : Int))) (hb : k ≤ 1000000000) : Ev P n s M (.binOp .sub t x (.const (.int .i64 1)) u) ty (.int .i64 (k : Int)) := by
  have := Ev.pred (P := P) (n := n) (M := M) (ty := ty) (t := t) (u := u) hx (by omega) (by omega)
  rwa [Nat.add_sub_cancel] at this
theorem Ev.arrAddr_add {x y : Operand} {t len e sz q i : Nat} {p : Addr} {k : IntKind} [ht : AT P t len e sz] (hx : ev s x = some (.pointer (some (p.add q)))) (hy : ev s y = some (.int k (i : Int))) (hi : i < len) : Ev P n s M (.indexAddr t x y) ty (.pointer (some (p.add (q + i * sz)))) := by
  refine ⟨fun ac w oo ho ht' hf hm => ?_⟩
  obtain ⟨inf, h1, h2⟩ := ht.info
  simp [execOp, ho, hf.ev hx, hf.ev hy, Instr.indexAt, Instr.sureAddr, asIntOf, run_underlying ht.und, sizeOf, typeInfo, h1, h2, hi, add_add]
end
theorem TCF.ex {F : Fence} {m : Nat} {P : Program} {c : Code} {Q : Exit → Act → World → Prop} {n : FD} {s : Sg} {M : World → Prop} {ι : Sort _} {M' : ι → World → Prop} (hM : ∀ w, M w → ∃ x, M' x w) (k : ∀ x, TCF F m P c Q n s (M' x)) : TCF F m P c Q n s M :=
  ⟨fun a w hf hm => let ⟨x, hx⟩ := hM w hm; (k x).go a w hf hx⟩
end Go.Sl
namespace Go.Bonsai
open Go
theorem Bts.vals_get {s : Bts} (h : s.wf) {i : Nat} (hi : i < 4) : s.vals.toArray[i]? = some (.int .u64 ((s.ws.getD i 0 : Nat) : Int)) ∧ s.ws.getD i 0 < 18446744073709551616 := by
  obtain ⟨h1, h2, h3, h4⟩ := h
  have e : i = 0 ∨ i = 1 ∨ i = 2 ∨ i = 3 := by omega
  rcases e with rfl | rfl | rfl | rfl
  · exact ⟨congrArg (fun z => some (Value.int .u64 z)) (show s.a = ((s.a.toNat : Nat) : Int) by omega), show s.a.toNat < _ by omega⟩
  · exact ⟨congrArg (fun z => some (Value.int .u64 z)) (show s.b = ((s.b.toNat : Nat) : Int) by omega), show s.b.toNat < _ by omega⟩
  · exact ⟨congrArg (fun z => some (Value.int .u64 z)) (show s.c = ((s.c.toNat : Nat) : Int) by omega), show s.c.toNat < _ by omega⟩
  · exact ⟨congrArg (fun z => some (Value.int .u64 z)) (show s.d = ((s.d.toNat : Nat) : Int) by omega), show s.d.toNat < _ by omega⟩
theorem bytesW_cut : ∀ (l : List Nat) (i k : Nat), bytesW i l = bytesW i (l.take k) ++ bytesW (i + k) (l.drop k)
  | [], i, k => by simp [bytesW]
  | x :: l, i, 0 => by simp [bytesW]
  | x :: l, i, k + 1 => by
    rw [List.take_succ_cons, List.drop_succ_cons, bytesW, bytesW, bytesW_cut l (i + 1) k, List.append_assoc, show i + 1 + k = i + (k + 1) by omega]
theorem bytesW_drop {l : List Nat} {i k : Nat} (h : k < l.length) : bytesW i (l.drop k) = (bitsL (l.getD k 0)).map (fun b => i * 64 + b) ++ bytesW (i + 1) (l.drop (k + 1)) := by
  have e : l.drop k = l[k] :: l.drop (k + 1) := (List.drop_eq_getElem_cons h)
  rw [e, bytesW, List.getD_eq_getElem?_getD, List.getElem?_eq_getElem h]
  rfl
theorem bytes_at {s : Bts} {i : Nat} (hi : i < 4) : (bytesL s).drop (bytesW 0 (s.ws.take i)).length = (bitsL (s.ws.getD i 0)).map (fun b => i * 64 + b) ++ bytesW (i + 1) (s.ws.drop (i + 1)) := by
  unfold bytesL
  rw [bytesW_cut s.ws 0 i, List.drop_left, Nat.zero_add]
  exact bytesW_drop (l := s.ws) (show i < s.ws.length from hi)
theorem bytes_next {s : Bts} {i k : Nat} (hk : k ≤ (bytesL s).length) (h : (bytesL s).drop k = bytesW (i + 1) (s.ws.drop (i + 1))) : k = (bytesW 0 (s.ws.take (i + 1))).length := by
  have h1 := congrArg List.length h
  rw [List.length_drop] at h1
  have h2 : (bytesL s).length = (bytesW 0 (s.ws.take (i + 1))).length + (bytesW (i + 1) (s.ws.drop (i + 1))).length := by
    unfold bytesL
    rw [bytesW_cut s.ws 0 (i + 1), List.length_append, Nat.zero_add]
  omega
theorem bytes_le {s : Bts} {i : Nat} : (bytesW 0 (s.ws.take i)).length ≤ (bytesL s).length := by
  unfold bytesL
  rw [bytesW_cut s.ws 0 i, List.length_append]
  omega
def rRows (l : List (Nat × Nat)) : List (List Value) := l.map fun r => [.int .u8 (r.1 : Int), .int .u8 (r.2 : Int)]
theorem rRows_len (l : List (Nat × Nat)) : (rRows l).length = l.length := by simp [rRows]
theorem rRows_get {l : List (Nat × Nat)} {i : Nat} {r : Nat × Nat} (h : l[i]? = some r) : (rRows l)[i]? = some [.int .u8 (r.1 : Int), .int .u8 (r.2 : Int)] := by simp [rRows, h]
end Go.Bonsai
namespace Go.Proofs.YtalnmednhhimhaaDoor
open Go Go.Sl Go.RowKit Go.Bonsai Go.Fl
set_option linter.unusedVariables false
set_option linter.unusedSimpArgs false
instance : AE Tryd.prog 52 4 := AE.of Tryd.underlying52 (by kernel_rfl) Tryd.underlying50 rfl
def notV : Nat → List Value
  | 0 => [.int .u64 0, .int .u64 0, .int .u64 0, .int .u64 0]
  | 1 => [.int .u64 18446744073709551615, .int .u64 0, .int .u64 0, .int .u64 0]
  | 2 => [.int .u64 18446744073709551615, .int .u64 18446744073709551615, .int .u64 0, .int .u64 0]
  | 3 => [.int .u64 18446744073709551615, .int .u64 18446744073709551615, .int .u64 18446744073709551615, .int .u64 0]
  | _ => [.int .u64 18446744073709551615, .int .u64 18446744073709551615, .int .u64 18446744073709551615, .int .u64 18446744073709551615]
theorem Ev.not0 {P : Program} {n : FD} {s : Sg} {M : World → Prop} {ty : TypeId} {x : Operand} {t : TypeId} (hx : ev s x = some (.int .u64 0)) : Ev P n s M (.unOp .xor t x) ty (.int .u64 18446744073709551615) := Ev.not64 (a := 0) hx (by decide)
set_option maxRecDepth 20000 in
theorem not0_any (w : World) : Calls Tryd.prog 70 #[.agg #[.int .u64 0, .int .u64 0, .int .u64 0, .int .u64 0]] w (RetV w (.agg Bts.all.vals.toArray)) := by
  refine TC.calls (l := [.agg #[.int .u64 0, .int .u64 0, .int .u64 0, .int .u64 0]]) Tryd.func70 rfl Tryd.ntmps70 rfl (St.start w) ?_
  repeat' (first | (refine W1 ?_) | (refine W2 (fun hc => ?_) (fun hc => ?_)) | (intro _))
  rename_i b1 b2
  refine TC.loopA (ι := Nat) 0 (fun i r => (6, .int .i64 i) :: r) (fun i => St w [blk b2 [.int .u64 0, .int .u64 0, .int .u64 0, .int .u64 0] 52, blk b1 (notV i) 52]) (fun i => i ≤ 4) (fun i => 4 - i) KpA SubA (fun _ h => h) (Nat.zero_le _) ?_
  intro i hi
  by_cases hlt : i < 4
  · have e : i = 0 ∨ i = 1 ∨ i = 2 ∨ i = 3 := by omega
    rcases e with rfl | rfl | rfl | rfl
    all_goals
      repeat' (first | ((apply T.ev_; exact rfl; apply Ev.arr_index; exact rfl; exact rfl; exact hlt; exact rfl)) | ((apply T.ev_; exact rfl; apply Ev.not0; exact rfl)) | ((apply T.ev_; exact rfl; apply Ev.arrAddr; exact rfl; exact rfl; exact hlt)) | (refine W1 ?_) | (refine W2 (fun hc => ?_) (fun hc => ?_)) | (intro _))
    · exact TX.round 1 (by decide) (by decide) SubA (fun w' hw => hw)
    · exact TX.round 2 (by decide) (by decide) SubA (fun w' hw => hw)
    · exact TX.round 3 (by decide) (by decide) SubA (fun w' hw => hw)
    · exact TX.round 4 (by decide) (by decide) SubA (fun w' hw => hw)
  · have hck : decide ((i : Int) < 4) = false := decide_eq_false (by omega)
    obtain rfl : i = 4 := by omega
    repeat' (first | (refine W1 ?_) | (refine W2 (fun hc => ?_) (fun hc => ?_)) | (intro _))
    exact TX.ret_gen (rs := [.cell 2 52]) (vs := [.agg Bts.all.vals.toArray]) rfl (.cell rfl (blk_res (cs := Bts.all.vals) AtA rfl) .nil) (fun w' hw => RetV.eq hw rfl)
theorem all_any (w : World) : Calls Tryd.prog 56 #[] w (RetV w (.agg Bts.all.vals.toArray)) := by
  refine TC.calls (l := []) Tryd.func56 rfl Tryd.ntmps56 rfl (St.start w) ?_
  repeat' (first | ((apply T.callV (f := 70); exact rfl; exact rfl; exact fun w' _ => not0_any w')) | (refine W1 ?_) | (refine W2 (fun hc => ?_) (fun hc => ?_)) | (intro _))
  exact TX.ret_gen (rs := [.cell 0 52]) (vs := [.agg Bts.all.vals.toArray]) rfl (.cell rfl (blk_res (cs := Bts.all.vals) AtA rfl) .nil) (fun w' hw => RetV.eq hw rfl)
/-- the table of TrailingZeros64 -/
def TabZ (w : World) : Prop := ∀ i, i < 64 → w.cell? ⟨2, i, none⟩ = some (.int .u8 ((Lib.deBruijn64tab.getD i 0 : Nat) : Int))
theorem TabZ.st {w0 w : World} {L : List HP} (h : TabZ w0) (hs : St w0 L w) : TabZ w := fun i hi => hs.old_cell (h i hi)
theorem tz_any (x : Nat) (w : World) (h0 : x ≠ 0) (hx : x < 18446744073709551616) (hT : TabZ w) : Calls Tryd.prog 80 #[.int .u64 (x : Int)] w (RetV w (.int .i64 ((Lib.ctz 64 x : Nat) : Int))) := by
  refine TC.calls (l := [.int .u64 (x : Int)]) Tryd.func80 rfl Tryd.ntmps80 rfl (St.start w) ?_
  obtain ⟨hlow, hk⟩ := Lib.lowest_bit 64 x h0 hx
  obtain ⟨hi, htab⟩ := Lib.deBruijn64_at _ hk
  generalize Lib.ctz 64 x = k at *
  have hp : 2 ^ k < 18446744073709551616 := Nat.pow_lt_pow_right (by decide) hk
  obtain ⟨a, ha⟩ : ∃ a, a = 2 ^ k := ⟨_, rfl⟩
  have hlow' : x &&& (18446744073709551616 - x) = a := by rw [ha]; exact hlow
  rw [← ha] at hi htab hp
  obtain ⟨m, hm⟩ : ∃ m, a * 285870213051353865 % 18446744073709551616 = m := ⟨_, rfl⟩
  rw [hm] at hi htab
  obtain ⟨j, hj⟩ : ∃ j, m / 288230376151711744 = j := ⟨_, rfl⟩
  rw [hj] at hi htab
  have hc : decide ((x : Int) = 0) = false := decide_eq_false (by omega)
  have ht := fun w' (hw' : St w [] w') => (TabZ.st hT hw') j hi
  rw [htab] at ht
  have hn : 18446744073709551616 - x < 18446744073709551616 := by omega
  repeat' (first | ((apply T.ev_; exact rfl; apply Ev.neg64; exact rfl; exact h0; exact hx)) | ((apply T.ev_; exact rfl; apply Ev.and64E hlow'; exact rfl; exact rfl; exact hx; exact hn)) | ((apply T.ev_; exact rfl; apply Ev.mul64E (b := 285870213051353865) hm; exact rfl; exact rfl)) | ((apply T.ev_; exact rfl; apply Ev.shr58E hj; exact rfl; exact rfl)) | ((apply T.ev_; exact rfl; apply Ev.arrAddr (i := j); exact rfl; exact rfl; exact hi)) | ((apply T.ev_; exact rfl; apply Ev.load1 (p := ⟨2, 0 + j * 1, none⟩); exact rfl; (intro w' hw'; rw [Nat.mul_one, Nat.zero_add]; exact ht w' hw'))) | ((apply T.ev_; exact rfl; apply Ev.conv_u8; exact rfl; omega)) | (refine W1 ?_) | (refine W2 (fun hc => ?_) (fun hc => ?_)) | (intro _))
  exact TX.ret_tmp rfl rfl (fun w' hw => RetV.eq hw rfl)
theorem setEach_any (s : Bts) (w : World) : Calls Tryd.prog 71 #[.agg s.vals.toArray] w (Ret w (fun b : Nat => .func (.func 79) #[] #[.pointer (some ⟨b, 0, none⟩)]) (fun b => [blk b s.vals 52]) (fun _ => True)) := by
  refine TC.calls (l := [.agg s.vals.toArray]) Tryd.func71 rfl Tryd.ntmps71 rfl (St.start w) ?_
  repeat' (first | (apply T.box; exact rfl; exact rfl; exact rfl) | (intro _) | (refine T.ev_ rfl (Ev.makeFunc (xs := [_]) rfl) ?_) | (refine W1 ?_) | (refine W2 (fun hc => ?_) (fun hc => ?_)) | (intro _))
  rename_i b
  refine TX.ret_tmp rfl rfl (fun w' hw => ?_)
  exact Ret.mk b trivial (.cons .here .nil) hw
set_option maxHeartbeats 1000000 in
theorem setEach1_any {w0 : World} (l b : Nat) (t : TypeId) (sv : Bts) (hs : sv.wf) (LL : Nat → List HP) (w : World) (hb : ∀ k, At (LL k) (blk b sv.vals t)) (hT : TabZ w0)
    (hY : ∀ k, k < (bytesL sv).length → ∀ W, St w0 (LL k) W → YieldAt Fence.wide 8 Tryd.prog l #[.int .u8 (((bytesL sv).getD k 0 : Nat) : Int)] W (fun e W' => e = .returned (.bool true) ∧ St w0 (LL (k + 1)) W'))
    (hW : St w0 (LL 0) w) : Calls Tryd.prog 79 #[.func (.yield l) #[] #[], .pointer (some ⟨b, 0, none⟩)] w (fun e w' => ∃ v, e = .returned v ∧ St w0 (LL (bytesL sv).length) w') := by
  refine TC.calls (l := [.func (.yield l) #[] #[], .pointer (some ⟨b, 0, none⟩)]) (M := St w0 (LL 0)) Tryd.func79 rfl Tryd.ntmps79 rfl hW ?_
  repeat' (first | (refine T.ev_ rfl (Ev.loadW rfl (hb 0) rfl) ?_) | (refine W1 ?_) | (refine W2 (fun hc => ?_) (fun hc => ?_)) | (intro _))
  refine TC.loopA (ι := Nat) 0 (fun i r => (6, .int .i64 i) :: r) (fun i => St w0 (LL (bytesW 0 (sv.ws.take i)).length)) (fun i => i ≤ 4) (fun i => 4 - i) KpA SubA (fun _ h => h) (Nat.zero_le _) ?_
  intro i hi
  by_cases hlt : i < 4
  · have hck : decide ((i : Int) < 4) = true := decide_eq_true (by omega)
    obtain ⟨hv, hx⟩ := Bts.vals_get hs hlt
    have hd := bytes_at (s := sv) hlt
    have hle := bytes_le (s := sv) (i := i)
    generalize sv.ws.getD i 0 = x0 at *
    generalize (bytesW 0 (sv.ws.take i)).length = k0 at *
    repeat' (first | ((apply T.ev_; exact rfl; apply Ev.arr_index (i := i); exact rfl; exact rfl; exact hlt; exact hv)) | (refine W1 ?_) | (refine W2 (fun hc => ?_) (fun hc => ?_)) | (intro _))
    refine TC.loopA (ι := Nat × Nat) (x0, k0) (fun y r => (4, .int .u64 (y.1 : Int)) :: r) (fun y => St w0 (LL y.2)) (fun y => y.1 < 18446744073709551616 ∧ y.2 ≤ (bytesL sv).length ∧ (bytesL sv).drop y.2 = (bitsL y.1).map (fun b => i * 64 + b) ++ bytesW (i + 1) (sv.ws.drop (i + 1))) (fun y => y.1) KpA SubA (fun _ h => h) ⟨hx, hle, hd⟩ ?_
    rintro ⟨x, k⟩ ⟨hx, hle, hd⟩
    simp only at hx hle hd ⊢
    by_cases h0 : x = 0
    · subst h0
      rw [bitsL_zero] at hd
      have hk := bytes_next hle hd
      have hc0 : (!decide (((0 : Nat) : Int) = 0)) = false := rfl
      repeat' (first | (refine W1 ?_) | (refine W2 (fun hc => ?_) (fun hc => ?_)) | (intro _))
      refine TX.round (i + 1) hlt (show 4 - (i + 1) < 4 - i by omega) SubA (fun w' hw => ?_)
      rw [← hk]
      exact hw
    · obtain ⟨hbits, hc64⟩ := bitsL_next h0 hx
      have hdec := and_pred_lt h0
      have hc0 : (!decide ((x : Int) = 0)) = true := by simp [h0]
      have hlk : k < (bytesL sv).length := by
        rcases Nat.lt_or_ge k (bytesL sv).length with h | h
        · exact h
        · rw [List.drop_of_length_le h, hbits] at hd
          cases hd
      have hd2 := List.drop_eq_getElem_cons hlk
      rw [hd, hbits, List.map_cons, List.cons_append, List.cons.injEq] at hd2
      obtain ⟨hd3, hd4⟩ := hd2
      have hgd : (bytesL sv).getD k 0 = i * 64 + Lib.ctz 64 x := by
        rw [List.getD_eq_getElem?_getD, List.getElem?_eq_getElem hlk, ← hd3]
        rfl
      have hY' := hY k hlk
      rw [hgd] at hY'
      have htz := fun w' (hw' : St w0 (LL k) w') => tz_any x w' h0 hx (TabZ.st hT hw')
      generalize Lib.ctz 64 x = cz at *
      have hcv : IntKind.u8.wrap ((i : Int) * 64 + (cz : Int)) = ((i * 64 + cz : Nat) : Int) := by
        rw [show (i : Int) * 64 + (cz : Int) = ((i * 64 + cz : Nat) : Int) by omega]
        simp only [IntKind.wrap, IntKind.signed, IntKind.bits]
        have : i * 64 + cz < 256 := by omega
        simp
        omega
      obtain ⟨x', hx'⟩ : ∃ x', x &&& (x - 1) = x' := ⟨_, rfl⟩
      rw [hx'] at hd4 hdec
      have h1x : 1 ≤ x := by omega
      have hxp : x - 1 < 18446744073709551616 := by omega
      repeat' (first | (refine TC.holdR 5 ?_) | (refine W1 ?_) | (refine W2 (fun hc => ?_) (fun hc => ?_)) | (intro _))
      refine ⟨TC.seq (TC.regionF ?_)⟩
      repeat' (first | ((apply TF.ev_; exact rfl; apply Ev.mul; exact rfl; exact rfl; (unfold I64; omega))) | ((apply TF.callV; exact rfl; exact rfl; exact htz)) | ((apply TF.ev_; exact rfl; apply Ev.add; exact rfl; exact rfl; (unfold I64; omega))) | ((apply TF.ev_; exact rfl; apply Ev.conv; exact rfl; exact hcv)) | (refine TF.yield (l := l) rfl rfl (xs := [.tmp 22]) rfl hY' ?_) | (refine W1f ?_) | (intro _))
      repeat' (first | ((apply T.ev_; exact rfl; apply Ev.sub64 (b := 1); exact rfl; exact rfl; exact h1x; exact hx)) | ((apply T.ev_; exact rfl; apply Ev.and64E hx'; exact rfl; exact rfl; exact hx; exact hxp)) | (refine W1 ?_) | (refine W2 (fun hc => ?_) (fun hc => ?_)) | (intro _))
      exact TX.round (x', k + 1) ⟨by simp only; omega, hlk, hd4.symm⟩ hdec SubA (fun w' hw => hw)
  · have hck : decide ((i : Int) < 4) = false := decide_eq_false (by omega)
    obtain rfl : i = 4 := by omega
    have e : (bytesW 0 (sv.ws.take 4)).length = (bytesL sv).length := rfl
    rw [e]
    repeat' (first | (refine W1 ?_) | (refine W2 (fun hc => ?_) (fun hc => ?_)) | (intro _))
    exact TX.end0 rfl (fun w' hw => ⟨_, rfl, hw⟩)
/-- a boxed slice of runs of one's own -/
abbrev runsK (b : Nat) (l : List (Nat × Nat)) (p : Option Addr × Nat) : List HP := [own 116 2 p.1 l.length p.2 (rRows l), blk b [.slice p.1 l.length p.2] 114]
def hRuns (b : Nat) (l : List (Nat × Nat)) : HP := hEx fun p : Option Addr × Nat => hSep (runsK b l p)
theorem hRuns_mk {w0 w : World} {L : List HP} {b : Nat} {l : List (Nat × Nat)} (p : Option Addr × Nat) (h : St w0 (own 116 2 p.1 l.length p.2 (rRows l) :: blk b [.slice p.1 l.length p.2] 114 :: L) w) : St w0 (hRuns b l :: L) w :=
  St.shutEx (f := fun p : Option Addr × Nat => hSep (runsK b l p)) p (St.shutSep (K := [_, _]) h)
theorem hRuns_open {w0 w : World} {L L' : List HP} {b : Nat} {l : List (Nat × Nat)} (hd : Del L (hRuns b l) L') (h : St w0 L w) : ∃ p : Option Addr × Nat, St w0 (own 116 2 p.1 l.length p.2 (rRows l) :: blk b [.slice p.1 l.length p.2] 114 :: L') w := by
  obtain ⟨p, hp⟩ := St.openEx (h.del hd)
  exact ⟨p, St.openSep hp⟩
theorem rRows_snoc (l : List (Nat × Nat)) (r : Nat × Nat) : rRows (l ++ [r]) = rRows l ++ [[.int .u8 (r.1 : Int), .int .u8 (r.2 : Int)]] := by simp [rRows]
theorem rRows_last (l : List (Nat × Nat)) (r : Nat × Nat) (b : Nat) : (rRows (l ++ [r])).set l.length (splice [.int .u8 (r.1 : Int), .int .u8 (r.2 : Int)] 1 [.int .u8 (b : Int)]) = rRows (l ++ [(r.1, b)]) := by
  have e : splice [.int .u8 (r.1 : Int), .int .u8 (r.2 : Int)] 1 [.int .u8 (b : Int)] = [Value.int .u8 (r.1 : Int), .int .u8 (b : Int)] := rfl
  rw [e, rRows_snoc, rRows_snoc, ← rRows_len l, List.set_append_right _ _ (Nat.le_refl _), Nat.sub_self]
  rfl
theorem take_foldl {bs : List Nat} {k : Nat} (h : k < bs.length) : (bs.take (k + 1)).foldl runAdd [] = runAdd ((bs.take k).foldl runAdd []) (bs.getD k 0) := by
  rw [List.take_succ_eq_append_getElem h, List.foldl_append, List.getD_eq_getElem?_getD, List.getElem?_eq_getElem h]
  rfl
set_option maxHeartbeats 2000000 in
set_option maxRecDepth 20000 in
theorem runs_any (s : Bts) (wz : World) (hs : s.wf) (hT : TabZ wz) : Calls Tryd.prog 58 #[.agg s.vals.toArray] wz (Ret wz (fun p : Option Addr × Nat => .slice p.1 (runsL s).length p.2) (fun p => [own 116 2 p.1 (runsL s).length p.2 (rRows (runsL s))]) (fun _ => True)) := by
  refine TC.callsM (l := [.agg s.vals.toArray]) Tryd.func58 rfl Tryd.ntmps58 rfl (St.start wz) ?_
  repeat' (first | (refine W1 ?_) | (refine W2 (fun hc => ?_) (fun hc => ?_)) | (intro _))
  rename_i b1 b3
  refine T.callR (f := 71) rfl rfl (fun w' hw' => setEach_any s w') (fun be _ => ?_)
  repeat' (first | (refine W1 ?_) | (refine W2 (fun hc => ?_) (fun hc => ?_)) | (intro _))
  refine TC.range1 (e1 := fun k => .int .u8 (((bytesL s).getD k 0 : Nat) : Int)) (K := (bytesL s).length) rfl rfl
    (fun k => [hRuns b3 (((bytesL s).take k).foldl runAdd []), blk be s.vals 52]) ?_ ?_ ?_ ?_
  · intro w' hw
    have g0 : St wz (blk be s.vals 52 :: blk b3 [.slice none 0 0] 114 :: blk b1 s.vals 52 :: []) w' := hw
    have g1 := St.own_nil (e := 116) (sz := 2) g0
    have g2 : St wz (own 116 2 none 0 0 [] :: blk b3 [.slice none 0 0] 114 :: [blk be s.vals 52]) w' := St.inc IncQ g1
    exact hRuns_mk (l := []) (none, 0) g2
  · intro l rec D W hY hW
    have := setEach1_any l be 52 s hs (fun k => obj l rec :: obj D (.deferred (some [])) :: [hRuns b3 (((bytesL s).take k).foldl runAdd []), blk be s.vals 52]) W (fun k => AtA) hT hY hW
    simpa using this
  · intro k hk l D r1 r2 R hR
    refine TCF.region ?_
    repeat' (first | (refine W1f ?_) | (intro _))
    refine ⟨fun a w hf hm => hR _ ?_ a w hf hm⟩
    refine TCF.block ?_
    refine TCF.ex (fun w hw => hRuns_open DelA hw) (fun p => ?_)
    have hb256 : (bytesL s).getD k 0 < 256 := by
      rw [List.getD_eq_getElem?_getD, List.getElem?_eq_getElem hk]
      exact bytesL_lt (List.getElem_mem hk)
    have hpre := foldl_run ((bytesL s).take k) [] (fun r hr => by cases hr) (fun b hb => bytesL_lt (List.mem_of_mem_take hb))
    have hlen : (((bytesL s).take k).foldl runAdd []).length ≤ 256 := by
      have h1 := hpre.2
      have h2 := bytesL_len s
      rw [List.length_take, List.length_nil] at h1
      omega
    rw [take_foldl hk]
    generalize (bytesL s).getD k 0 = b at *
    generalize ((bytesL s).take k).foldl runAdd [] = rl at *
    have hok := hpre.1
    clear hpre hR hf hm
    obtain ⟨A, c⟩ := p
    dsimp only
    refine TCF.seq (TCF.seq (TCF.region ?_))
    rcases list_snoc rl with rfl | ⟨init, r, rfl⟩
    · have hc0 : decide ((0 : Int) ≤ ((([] : List (Nat × Nat)).length : Nat) : Int) - 1) = false := rfl
      repeat' (first | ((apply TCF.seq)) | ((apply TX.thenF)) | ((apply TX.then_exit)) | ((apply TX.block_exit)) | ((apply TCF.exit)) | ((apply TCF.skip)) | ((apply TCF.cond_t; exact rfl; assumption)) | ((apply TCF.cond_f; exact rfl; first | exact rfl | assumption)) | ((apply TF.guard_yes; exact rfl; exact rfl; exact rfl; assumption)) | ((apply TF.guard_no; exact rfl; exact rfl; exact rfl; exact rfl; assumption)) | ((apply TF.ev_; exact rfl; apply Ev.build_arr (cs := #[.int .u8 (b : Int), .int .u8 (b : Int)]); exact rfl; exact rfl)) | (refine W1f ?_) | (intro _))
      refine TF.append (rows := ([] : List (List Value))) (news := [[.int .u8 (b : Int), .int .u8 (b : Int)]]) rfl rfl rfl DelA (fun w hw => St.own_arr hw AtA) (fun _ _ r hr => by simp at hr; subst hr; rfl) (by unfold maxLen; omega) (by omega) (fun A6 c6 => ?_)
      repeat' (first | ((apply TCF.seq)) | ((apply TX.thenF)) | ((apply TX.then_exit)) | ((apply TX.block_exit)) | ((apply TCF.exit)) | ((apply TCF.skip)) | (refine W1f ?_) | (intro _))
      refine ⟨fun a w hf hm => ⟨rfl, ?_⟩⟩
      have g1 : St wz [own 116 2 A6 1 c6 [[.int .u8 (b : Int), .int .u8 (b : Int)]], blk b3 [.slice A6 1 c6] 114, obj l r2, obj D (.deferred (some [])), blk be s.vals 52] w := St.inc IncQ hm
      exact St.inc IncQ (hRuns_mk (l := [(b, b)]) (A6, c6) g1)
    · have hl1 : (init ++ [r]).length = init.length + 1 := by simp
      rw [hl1] at hlen ⊢
      have hc0 : decide ((0 : Int) ≤ (init.length : Int)) = true := decide_eq_true (by omega)
      have hrl : (rRows (init ++ [r]))[init.length]? = some [.int .u8 (r.1 : Int), .int .u8 (r.2 : Int)] := rRows_get (by simp)
      have hr2 := hok r (by simp)
      have hWW : ∀ w', St wz [own 116 2 A (init.length + 1) c (rRows (init ++ [r])), blk b3 [.slice A (init.length + 1) c] 114, obj l r2, obj D (.deferred (some [])), blk be s.vals 52] w' → Arr 2 (Old w') w' A (init.length + 1) (rRows (init ++ [r])) := fun w' hw => St.own_arr hw AtA
      by_cases hb : r.2 + 1 = b
      · have hc1 : decide (((r.2 + 1 : Nat) : Int) = (b : Int)) = true := decide_eq_true (by omega)
        repeat' (first | ((apply TCF.seq)) | ((apply TX.thenF)) | ((apply TX.then_exit)) | ((apply TX.block_exit)) | ((apply TCF.exit)) | ((apply TCF.skip)) | ((apply TCF.cond_t; exact rfl; assumption)) | ((apply TCF.cond_f; exact rfl; first | exact rfl | assumption)) | ((apply TF.guard_yes; exact rfl; exact rfl; exact rfl; assumption)) | ((apply TF.guard_no; exact rfl; exact rfl; exact rfl; exact rfl; assumption)) | ((apply TF.ev_; exact rfl; apply Ev.predN; exact rfl; omega)) | ((apply TF.ev_; exact rfl; apply Ev.arrAddr_add (i := 1); exact rfl; exact rfl; decide)) | ((apply TF.ev_; exact rfl; apply Ev.cell (i := init.length) (o := 1); exact rfl; exact rfl; exact hWW; exact hrl; exact rfl)) | (refine W1f ?_) | (intro _))
        refine TF.actN (Ac.storeA (e := 116) (sz := 2) (i := init.length) (o := 1) (r := [.int .u8 (r.1 : Int), .int .u8 (r.2 : Int)]) (vs := [.int .u8 (b : Int)]) (rows := rRows (init ++ [r])) rfl rfl rfl rfl rfl rfl UpdA rfl hrl (by simp)) (fun _ => ?_)
        rw [rRows_last, runAdd_snoc, if_pos hb]
        repeat' (first | ((apply TCF.seq)) | ((apply TX.thenF)) | ((apply TX.then_exit)) | ((apply TX.block_exit)) | ((apply TCF.exit)) | ((apply TCF.skip)) | (refine W1f ?_) | (intro _))
        refine ⟨fun a w hf hm => ⟨rfl, ?_⟩⟩
        have hl2 : (init ++ [(r.1, b)]).length = init.length + 1 := by simp
        have g1 : St wz [own 116 2 A (init ++ [(r.1, b)]).length c (rRows (init ++ [(r.1, b)])), blk b3 [.slice A (init ++ [(r.1, b)]).length c] 114, obj l r2, obj D (.deferred (some [])), blk be s.vals 52] w := by rw [hl2]; exact St.inc IncQ hm
        exact St.inc IncQ (hRuns_mk (A, c) g1)
      · have hc1 : decide (((r.2 + 1 : Nat) : Int) = (b : Int)) = false := decide_eq_false (by omega)
        repeat' (first | ((apply TCF.seq)) | ((apply TX.thenF)) | ((apply TX.then_exit)) | ((apply TX.block_exit)) | ((apply TCF.exit)) | ((apply TCF.skip)) | ((apply TCF.cond_t; exact rfl; assumption)) | ((apply TCF.cond_f; exact rfl; first | exact rfl | assumption)) | ((apply TF.guard_yes; exact rfl; exact rfl; exact rfl; assumption)) | ((apply TF.guard_no; exact rfl; exact rfl; exact rfl; exact rfl; assumption)) | ((apply TF.ev_; exact rfl; apply Ev.predN; exact rfl; omega)) | ((apply TF.ev_; exact rfl; apply Ev.arrAddr_add (i := 1); exact rfl; exact rfl; decide)) | ((apply TF.ev_; exact rfl; apply Ev.cell (i := init.length) (o := 1); exact rfl; exact rfl; exact hWW; exact hrl; exact rfl)) | ((apply TF.ev_; exact rfl; apply Ev.build_arr (cs := #[.int .u8 (b : Int), .int .u8 (b : Int)]); exact rfl; exact rfl)) | (refine W1f ?_) | (intro _))
        refine TF.append (rows := rRows (init ++ [r])) (news := [[.int .u8 (b : Int), .int .u8 (b : Int)]]) rfl rfl rfl DelA (fun w hw => St.own_arr hw AtA) (fun _ _ r hr => by simp at hr; subst hr; rfl) (by unfold maxLen; omega) (by omega) (fun A6 c6 => ?_)
        rw [runAdd_snoc, if_neg hb]
        repeat' (first | ((apply TCF.seq)) | ((apply TX.thenF)) | ((apply TX.then_exit)) | ((apply TX.block_exit)) | ((apply TCF.exit)) | ((apply TCF.skip)) | (refine W1f ?_) | (intro _))
        refine ⟨fun a w hf hm => ⟨rfl, ?_⟩⟩
        have hl2 : (init ++ [r] ++ [(b, b)]).length = init.length + 1 + 1 := by simp
        have g1 : St wz [own 116 2 A6 (init ++ [r] ++ [(b, b)]).length c6 (rRows (init ++ [r] ++ [(b, b)])), blk b3 [.slice A6 (init ++ [r] ++ [(b, b)]).length c6] 114, obj l r2, obj D (.deferred (some [])), blk be s.vals 52] w := by rw [hl2, rRows_snoc]; exact St.inc IncQ hm
        exact St.inc IncQ (hRuns_mk (A6, c6) g1)
  · intro D
    rw [List.take_of_length_le (Nat.le_refl _)]
    rw [show ((bytesL s).foldl runAdd []) = runsL s from rfl]
    generalize runsL s = rl
    repeat' (first | ((refine TC.holdR 8 ?_)) | (refine W1 ?_) | (refine W2 (fun hc => ?_) (fun hc => ?_)) | (intro _))
    refine ⟨TC.ex (fun w hw => hRuns_open DelA hw) (fun p => ?_)⟩
    repeat' (first | (refine W1 ?_) | (refine W2 (fun hc => ?_) (fun hc => ?_)) | (intro _))
    refine TX.retM_tmp (w0 := wz) (L := [own 116 2 p.1 rl.length p.2 (rRows rl)]) rfl rfl (fun w' hw => ?_) (fun w' hw => ?_)
    · have h1 := St.push (H := marks []) hw Chg.refl trivial
      have h2 := St.del (H := obj D (.deferred (some []))) DelA h1
      have h3 := St.joinD (K := marks [{ target := .collected D, args := #[] }]) (fun S S' w h h' hd => marks_cons h h' hd) h2
      exact St.inc IncQ h3
    · exact Ret.mk p trivial (.cons .here .nil) hw
end Go.Proofs.YtalnmednhhimhaaDoor
/- quote.Class, and what a Set draws, walked. -/
namespace Go.Sl
open Go Go.RowKit
theorem Ev.sub8 {P : Program} {n : FD} {s : Sg} {M : World → Prop} {ty : TypeId} {x y : Operand} {t u : TypeId} {a b : Nat} (hx : ev s x = some (.int .u8 (a : Int))) (hy : ev s y = some (.int .u8 (b : Int))) (hb : b ≤ a) (ha : a < 256) : Ev P n s M (.binOp .sub t x y u) ty (.int .u8 ((a - b : Nat) : Int)) := by
  refine ⟨fun ac w o ho ht hf hm => ?_⟩
  have h : IntKind.u8.wrap ((a : Int) - (b : Int)) = ((a - b : Nat) : Int) := by
    rw [show (a : Int) - (b : Int) = ((a - b : Nat) : Int) by omega]
    simp only [IntKind.wrap, IntKind.signed, IntKind.bits]
    simp
    omega
  simp [execOp, ho, hf.ev hx, hf.ev hy, eqGuard, binOp, Op.intArith, h]
end Go.Sl
namespace Go.Bonsai
open Go
theorem byte_nat {n : Nat} (h : n < 256) : (n.toUInt8.toNat : Int) = n := by
  rw [UInt8.toNat_ofNat_of_lt' (by simpa using h)]
end Go.Bonsai
namespace Go.Proofs.YtalnmednhhimhaaDoor
open Go Go.Sl Go.RowKit Go.Bonsai Go.Fl Go.Lib
set_option linter.unusedVariables false
set_option linter.unusedSimpArgs false
theorem putN_any {w0 : World} {L0 : List HP} (b : Nat) (p : Option Addr × Nat) (l : List UInt8) (n : Nat) (w : World) (hn : n < 256) (hl : l.length ≤ 900000000) (hw : St w0 (bBlk b (sf b) p l.length :: bOwn p l.length l :: L0) w) :
    Calls Tryd.prog 59 #[.pointer (some ⟨b, 0, none⟩), .int .u8 (n : Int), .string ⟨#[93, 45, 94]⟩] w (fun e w' => ∃ x : Option Addr × Nat, e = .returned (.tuple #[]) ∧ St w0 (bBlk b (sf b) x (l ++ putB inClassB n.toUInt8).length :: bOwn x (l ++ putB inClassB n.toUInt8).length (l ++ putB inClassB n.toUInt8) :: L0) w') := by
  have h := qput_any (L0 := L0) b (sf b) p l n.toUInt8 inClassB w (.inr rfl) hl hw
  rw [byte_nat hn] at h
  exact h
set_option maxHeartbeats 2000000 in
set_option maxRecDepth 20000 in
theorem class_any (s : Bts) (w : World) (hs : s.wf) (hT : TabZ w) : Calls Tryd.prog 35 #[.agg s.vals.toArray] w (RetV w (.string ⟨(classB s).toArray⟩)) := by
  refine TC.calls (l := [.agg s.vals.toArray]) Tryd.func35 rfl Tryd.ntmps35 rfl (St.start w) ?_
  by_cases hall : s = .all
  · have hd : decide (s = Bts.all) = true := decide_eq_true hall
    have e : classB s = [46] := by unfold classB; rw [if_pos hall]
    rw [e]
    clear e hall
    repeat' (first | ((refine TC.lexT [] (.seg [0, 1, 2] .fin) mixed (by kernel_rfl) (TT.seg rfl ?_))) | ((apply TL.kcallV (f := 56); exact rfl; (intro w' _; exact all_any w'); exact rfl; exact rfl; exact DropA)) | ((apply TL.pure_; exact rfl; exact rfl; apply Ev.bts_eql (a := s) (b := .all); exact rfl; exact rfl)) | ((apply TX.tree)) | ((apply TT.fin)) | (refine W1 ?_) | (refine W2 (fun hc => ?_) (fun hc => ?_)) | (intro _))
    exact TX.ret_tmp rfl rfl (fun w' hw => RetV.eq hw rfl)
  have hd : decide (s = Bts.all) = false := decide_eq_false hall
  have e : classB s = [91] ++ runsB (runsL s) ++ [93] := by unfold classB; rw [if_neg hall]
  rw [e]
  clear e hall
  obtain ⟨hrok, hrl⟩ := runsL_ok s
  repeat' (first | ((refine TC.lexT [] (.seg [0, 1, 2] .fin) mixed (by kernel_rfl) (TT.seg rfl ?_))) | ((apply TL.kcallV (f := 56); exact rfl; (intro w' _; exact all_any w'); exact rfl; exact rfl; exact DropA)) | ((apply TL.pure_; exact rfl; exact rfl; apply Ev.bts_eql (a := s) (b := .all); exact rfl; exact rfl)) | ((apply TX.tree)) | ((apply TT.fin)) | (refine W1 ?_) | (refine W2 (fun hc => ?_) (fun hc => ?_)) | (intro _))
  rename_i b1 b
  refine T.callM (f := 57) (val := fun _ : Option Addr × Nat => .nilIface) rfl rfl (fun w' hw' => writeByte_any (L0 := [blk b1 s.vals 52]) b none (none, 0) [] 91 w' (.inl rfl) (by simp) (by
    have g0 : St w (bBlk b none (none, 0) 0 :: blk b1 s.vals 52 :: []) w' := hw'
    exact St.inc (L' := [bBlk b none (none, 0) 0, bOwn (none, 0) 0 [], blk b1 s.vals 52]) IncQ (St.own_nil (e := 5) (sz := 1) g0))) (fun x0 => ?_)
  repeat' (first | (refine W1 ?_) | (refine W2 (fun hc => ?_) (fun hc => ?_)) | (intro _))
  refine T.callR (f := 58) rfl rfl (fun w' hw' => runs_any s w' hs (TabZ.st hT hw')) (fun rp _ => ?_)
  generalize runsL s = rl at *
  obtain ⟨RA, rc⟩ := rp
  repeat' (first | (refine W1 ?_) | (refine W2 (fun hc => ?_) (fun hc => ?_)) | (intro _))
  refine TC.loopA (ι := (Option Addr × Nat) × Nat) (x0, 0) (fun k r => (13, .int .i64 k.2) :: r)
    (fun k => St w [bBlk b (sf b) k.1 ([91] ++ runsB (rl.take k.2)).length, bOwn k.1 ([91] ++ runsB (rl.take k.2)).length ([91] ++ runsB (rl.take k.2)), own 116 2 RA rl.length rc (rRows rl)])
    (fun k => k.2 ≤ rl.length) (fun k => rl.length - k.2) KpA SubA (fun w' hw => St.inc IncQ hw) (Nat.zero_le _) ?_
  rintro ⟨x, i⟩ hi
  simp only at hi ⊢
  have hln : ([91] ++ runsB (rl.take i)).length ≤ 9 * i + 1 := by
    have := runsB_len (rl.take i)
    rw [List.length_take] at this
    rw [List.length_append, List.length_singleton]
    omega
  by_cases hlt : i < rl.length
  · have hck : decide ((i : Int) < (rl.length : Int)) = true := decide_eq_true (by omega)
    have hgx : rl[i]? = some rl[i] := List.getElem?_eq_getElem hlt
    have hmem := List.getElem_mem hlt
    have htk : rl.take (i + 1) = rl.take i ++ [rl[i]] := List.take_succ_eq_append_getElem hlt
    generalize rl[i] = r at *
    obtain ⟨r1, r2⟩ := hrok r hmem
    have hrow := rRows_get hgx
    have hr1 : r.1 < 256 := by omega
    generalize hout : [91] ++ runsB (rl.take i) = out at *
    repeat' (first | ((apply T.ev_; exact rfl; apply Ev.elem (i := i); exact rfl; exact rfl; (exact fun w' hw' => St.own_arr hw' AtA); exact hrow; exact rfl)) | (refine W1 ?_) | (refine W2 (fun hc => ?_) (fun hc => ?_)) | (intro _))
    rename_i b5
    refine T.sub (M' := St w [bBlk b (sf b) x out.length, bOwn x out.length out, blk b5 [.int .u8 (r.1 : Int), .int .u8 (r.2 : Int)] 116, own 116 2 RA rl.length rc (rRows rl)]) (fun w' hw => ?_) ?_
    · have g0 : St w [blk b5 [.int .u8 (r.1 : Int), .int .u8 (r.2 : Int)] 116, bBlk b (sf b) x out.length, bOwn x out.length out, own 116 2 RA rl.length rc (rRows rl)] w' := hw
      exact St.inc IncQ g0
    have hp1 := putB_len inClassB r.1.toUInt8
    refine T.callM (f := 59) (val := fun _ : Option Addr × Nat => .tuple #[]) rfl rfl (fun w' hw' => putN_any (L0 := [blk b5 [.int .u8 (r.1 : Int), .int .u8 (r.2 : Int)] 116, own 116 2 RA rl.length rc (rRows rl)]) b x out r.1 w' hr1 (by omega) hw') (fun x1 => ?_)
    have hl1 : (out ++ putB inClassB r.1.toUInt8).length ≤ out.length + 4 := by rw [List.length_append]; omega
    by_cases h2 : r.2 = r.1
    · have c1 : decide ((1 : Int) < ((r.2 - r.1 : Nat) : Int)) = false := decide_eq_false (by omega)
      have c2 : (!decide ((r.2 : Int) = (r.1 : Int))) = false := by rw [decide_eq_true (by omega)]; rfl
      have eb : runB r = putB inClassB r.1.toUInt8 := by unfold runB; rw [if_neg (by omega), if_neg (by omega), List.append_nil, List.append_nil]
      repeat' (first | ((apply T.ev_; exact rfl; apply Ev.sub8; exact rfl; exact rfl; exact r1; exact r2)) | (refine W1 ?_) | (refine W2 (fun hc => ?_) (fun hc => ?_)) | (intro _))
      refine TX.round (x1, i + 1) hlt (show rl.length - (i + 1) < rl.length - i by omega) SubA (fun w' hw => ?_)
      rw [htk, runsB_snoc, eb, ← List.append_assoc, hout]
      exact St.inc IncQ hw
    · have c2 : (!decide ((r.2 : Int) = (r.1 : Int))) = true := by rw [decide_eq_false (by omega)]; rfl
      by_cases h1 : 1 < r.2 - r.1
      · have c1 : decide ((1 : Int) < ((r.2 - r.1 : Nat) : Int)) = true := decide_eq_true (by omega)
        have eb : runB r = putB inClassB r.1.toUInt8 ++ [45] ++ putB inClassB r.2.toUInt8 := by unfold runB; rw [if_pos h1, if_pos h2]
        repeat' (first | ((apply T.ev_; exact rfl; apply Ev.sub8; exact rfl; exact rfl; exact r1; exact r2)) | (refine W1 ?_) | (refine W2 (fun hc => ?_) (fun hc => ?_)) | (intro _))
        refine T.callM (f := 57) (val := fun _ : Option Addr × Nat => .nilIface) rfl rfl (fun w' hw' => writeByte_any (L0 := [blk b5 [.int .u8 (r.1 : Int), .int .u8 (r.2 : Int)] 116, own 116 2 RA rl.length rc (rRows rl)]) b (sf b) x1 (out ++ putB inClassB r.1.toUInt8) 45 w' (.inr rfl) (by omega) hw') (fun x2 => ?_)
        repeat' (first | ((apply T.ev_; exact rfl; apply Ev.sub8; exact rfl; exact rfl; exact r1; exact r2)) | (refine W1 ?_) | (refine W2 (fun hc => ?_) (fun hc => ?_)) | (intro _))
        refine T.callM (f := 59) (val := fun _ : Option Addr × Nat => .tuple #[]) rfl rfl (fun w' hw' => putN_any (L0 := [blk b5 [.int .u8 (r.1 : Int), .int .u8 (r.2 : Int)] 116, own 116 2 RA rl.length rc (rRows rl)]) b x2 (out ++ putB inClassB r.1.toUInt8 ++ [45]) r.2 w' r2 (by rw [List.length_append, List.length_singleton]; omega) hw') (fun x3 => ?_)
        repeat' (first | (refine W1 ?_) | (refine W2 (fun hc => ?_) (fun hc => ?_)) | (intro _))
        refine TX.round (x3, i + 1) hlt (show rl.length - (i + 1) < rl.length - i by omega) SubA (fun w' hw => ?_)
        rw [htk, runsB_snoc, eb, ← List.append_assoc, ← List.append_assoc, ← List.append_assoc, hout]
        exact St.inc IncQ hw
      · have c1 : decide ((1 : Int) < ((r.2 - r.1 : Nat) : Int)) = false := decide_eq_false (by omega)
        have eb : runB r = putB inClassB r.1.toUInt8 ++ putB inClassB r.2.toUInt8 := by unfold runB; rw [if_neg h1, if_pos h2, List.append_nil]
        repeat' (first | ((apply T.ev_; exact rfl; apply Ev.sub8; exact rfl; exact rfl; exact r1; exact r2)) | (refine W1 ?_) | (refine W2 (fun hc => ?_) (fun hc => ?_)) | (intro _))
        refine T.callM (f := 59) (val := fun _ : Option Addr × Nat => .tuple #[]) rfl rfl (fun w' hw' => putN_any (L0 := [blk b5 [.int .u8 (r.1 : Int), .int .u8 (r.2 : Int)] 116, own 116 2 RA rl.length rc (rRows rl)]) b x1 (out ++ putB inClassB r.1.toUInt8) r.2 w' r2 (by omega) hw') (fun x3 => ?_)
        repeat' (first | (refine W1 ?_) | (refine W2 (fun hc => ?_) (fun hc => ?_)) | (intro _))
        refine TX.round (x3, i + 1) hlt (show rl.length - (i + 1) < rl.length - i by omega) SubA (fun w' hw => ?_)
        rw [htk, runsB_snoc, eb, ← List.append_assoc, ← List.append_assoc, hout]
        exact St.inc IncQ hw
  have hck : decide ((i : Int) < (rl.length : Int)) = false := decide_eq_false (by omega)
  obtain rfl : i = rl.length := by omega
  rw [List.take_of_length_le (Nat.le_refl _)] at hln ⊢
  repeat' (first | (refine W1 ?_) | (refine W2 (fun hc => ?_) (fun hc => ?_)) | (intro _))
  refine T.callM (f := 57) (val := fun _ : Option Addr × Nat => .nilIface) rfl rfl (fun w' hw' => writeByte_any (L0 := [own 116 2 RA rl.length rc (rRows rl)]) b (sf b) x ([91] ++ runsB rl) 93 w' (.inr rfl) (by omega) hw') (fun x3 => ?_)
  repeat' (first | (refine W1 ?_) | (refine W2 (fun hc => ?_) (fun hc => ?_)) | (intro _))
  refine T.callM (f := 31) (val := fun _ : Unit => .string ⟨([91] ++ runsB rl ++ [93]).toArray⟩) (LL := fun _ => [own 116 2 RA rl.length rc (rRows rl)]) rfl rfl (fun w' hw' => bstr_any (L0 := [own 116 2 RA rl.length rc (rRows rl)]) b (sf b) x3 ([91] ++ runsB rl ++ [93]) w' (by simp) (by rw [List.length_append, List.length_singleton]; omega) hw') (fun _ => ?_)
  repeat' (first | (refine W1 ?_) | (refine W2 (fun hc => ?_) (fun hc => ?_)) | (intro _))
  exact TX.ret_tmp rfl rfl (fun w' hw => RetV.eq hw rfl)
set_option maxHeartbeats 1000000 in
theorem kSet_any (n : Nod) (kv kids : Value) (w : World) (hn : n.set.wf) (hT : TabZ w) : Calls Tryd.prog 33 #[.agg (n.cells kv).toArray, kids] w (RetD w (leafD ⟨(classB n.set).toArray⟩)) := by
  refine TC.calls (l := [.agg (n.cells kv).toArray, kids]) Tryd.func33 rfl Tryd.ntmps33 rfl (St.start w) ?_
  have hl := classB_len n.set
  have hz : (⟨(classB n.set).toArray⟩ : ByteArray).size = (classB n.set).length := by show (classB n.set).toArray.size = _; simp
  repeat' (first | ((apply T.callV (f := 35); exact rfl; exact rfl; exact fun w' hw' => class_any n.set w' hn (TabZ.st hT hw'))) | (refine W1 ?_) | (refine W2 (fun hc => ?_) (fun hc => ?_)) | (intro _))
  refine T.callR (f := 34) rfl rfl (fun w' hw' => rleaf_any _ w' (by omega)) (fun x _ => ?_)
  generalize leafD ⟨(classB n.set).toArray⟩ = D at *
  repeat' (first | (refine W1 ?_) | (refine W2 (fun hc => ?_) (fun hc => ?_)) | (intro _))
  refine TX.ret_gen (rs := [.cell 4 30]) (vs := [dVal x.1 x.2 D]) rfl (.cell rfl (blk_res (cs := [.int .i64 D.w, .int .i64 D.up, .int .i64 D.dn, .slice x.1.1 D.ss.length x.1.2, .slice x.2.1 D.ls.length x.2.2]) AtA rfl) .nil) (fun w' hw => ?_)
  exact RetD.cell hw (.cons .here (.cons .here .nil))
end Go.Proofs.YtalnmednhhimhaaDoor
/- Ends of strokes, pure: each is 0, the width, or lies on another stroke. -/
namespace Go.Bonsai
open Go
/-- a point lies between two others -/
def btw (p a b : Pt) : Prop := min a.1 b.1 ≤ p.1 ∧ p.1 ≤ max a.1 b.1 ∧ min a.2 b.2 ≤ p.2 ∧ p.2 ≤ max a.2 b.2
/-- a point lies on a stroke -/
def lieP (p : Pt) : List Pt → Prop
  | a :: b :: r => btw p a b ∨ lieP p (b :: r)
  | _ => False
def tch (ss : List (List Pt)) (p : Pt) : Prop := ∃ t ∈ ss, lieP p t
def boxQ (s : List Pt) : Prop := s.length = 5 ∧ s.head? = s.getLast?
/-- each stroke's ends are as told, or lie on another stroke -/
def Jn (e : Pt → Prop) (ss : List (List Pt)) : Prop := ∀ l1 s l2, ss = l1 ++ s :: l2 → boxQ s ∨ ∀ p, (s.head? = some p ∨ s.getLast? = some p) → e p ∨ tch (l1 ++ l2) p
theorem tch_left {a b : List (List Pt)} {p : Pt} (h : tch a p) : tch (a ++ b) p := let ⟨t, h1, h2⟩ := h; ⟨t, List.mem_append_left _ h1, h2⟩
theorem tch_right {a b : List (List Pt)} {p : Pt} (h : tch b p) : tch (a ++ b) p := let ⟨t, h1, h2⟩ := h; ⟨t, List.mem_append_right _ h1, h2⟩
theorem tch_one {s : List Pt} {p : Pt} (h : lieP p s) : tch [s] p := ⟨s, by simp, h⟩
theorem btw_mv {b p x y : Pt} (h : btw p x y) : btw (mvP b p) (mvP b x) (mvP b y) := by
  obtain ⟨h1, h2, h3, h4⟩ := h
  simp only [btw, mvP]
  omega
theorem lieP_mv {b p : Pt} : ∀ {s : List Pt}, lieP p s → lieP (mvP b p) (s.map (mvP b))
  | [], h => h.elim
  | [_], h => h.elim
  | x :: y :: r, h => by
    rcases h with h | h
    · exact .inl (btw_mv h)
    · exact .inr (lieP_mv (s := y :: r) h)
theorem tch_mv {b p : Pt} {ss : List (List Pt)} (h : tch ss p) : tch (mvS b ss) (mvP b p) := by
  obtain ⟨t, h1, h2⟩ := h
  exact ⟨_, List.mem_map.2 ⟨t, h1, rfl⟩, lieP_mv h2⟩
theorem Jn.nil {e : Pt → Prop} : Jn e [] := fun l1 s l2 h => by cases l1 <;> cases h
theorem Jn.one {e : Pt → Prop} {s : List Pt} (h : ∀ p, (s.head? = some p ∨ s.getLast? = some p) → e p) : Jn e [s] := fun l1 t l2 h' => by
  cases l1 with
  | nil => cases h'; exact .inr (fun p hp => .inl (h p hp))
  | cons x r => cases r <;> cases h'
theorem Jn.box {e : Pt → Prop} {r t b : Int} : Jn e [boxP r t b] := fun l1 s l2 h' => by
  cases l1 with
  | nil => cases h'; exact .inl ⟨rfl, rfl⟩
  | cons x r => cases r <;> cases h'
theorem Jn.app {e f g : Pt → Prop} {a b : List (List Pt)} (ha : Jn e a) (hb : Jn f b) (h1 : ∀ p, e p → g p ∨ tch b p) (h2 : ∀ p, f p → g p ∨ tch a p) : Jn g (a ++ b) := by
  intro l1 s l2 h
  rcases List.append_eq_append_iff.1 h with ⟨m, h3, h4⟩ | ⟨m, h3, h4⟩
  · -- a ++ m = l1, b = m ++ s :: l2
    rcases hb m s l2 h4 with h5 | h5
    · exact .inl h5
    · refine .inr (fun p hp => ?_)
      rw [h3]
      rcases h5 p hp with h6 | h6
      · rcases h2 p h6 with h7 | h7
        · exact .inl h7
        · exact .inr (by rw [List.append_assoc]; exact tch_left h7)
      · exact .inr (by rw [List.append_assoc]; exact tch_right h6)
  · cases m with
    | nil =>
      simp only [List.append_nil, List.nil_append] at h3 h4
      rcases hb [] s l2 h4.symm with h5 | h5
      · exact .inl h5
      · refine .inr (fun p hp => ?_)
        rw [← h3]
        rcases h5 p hp with h6 | h6
        · rcases h2 p h6 with h7 | h7
          · exact .inl h7
          · exact .inr (tch_left h7)
        · exact .inr (tch_right h6)
    | cons x m =>
      simp only [List.cons_append, List.cons.injEq] at h4
      obtain ⟨rfl, rfl⟩ := h4
      rcases ha l1 s m h3 with h5 | h5
      · exact .inl h5
      · refine .inr (fun p hp => ?_)
        rcases h5 p hp with h6 | h6
        · rcases h1 p h6 with h7 | h7
          · exact .inl h7
          · exact .inr (by rw [← List.append_assoc]; exact tch_right h7)
        · exact .inr (by rw [← List.append_assoc]; exact tch_left h6)
theorem Jn.weak {e f : Pt → Prop} {a : List (List Pt)} (ha : Jn e a) (h : ∀ p, e p → f p) : Jn f a := fun l1 s l2 h' => (ha l1 s l2 h').imp id (fun h2 p hp => (h2 p hp).imp (h p) id)
theorem Jn.mv {e : Pt → Prop} {ss : List (List Pt)} {b : Pt} (h : Jn e ss) : Jn (fun p => ∃ q, e q ∧ p = mvP b q) (mvS b ss) := by
  intro l1 s l2 h'
  unfold mvS at h'
  obtain ⟨m1, m2, h1, h2, h3⟩ := List.map_eq_append_iff.1 h'
  obtain ⟨t, m3, h4, h5, h6⟩ := List.map_eq_cons_iff.1 h3
  subst h4
  subst h1
  subst h2; subst h5; subst h6
  rcases h m1 t m3 rfl with g | g
  · refine .inl ⟨by rw [List.length_map]; exact g.1, ?_⟩
    rw [List.head?_map, List.getLast?_map, g.2]
  · refine .inr (fun p hp => ?_)
    rw [List.head?_map, List.getLast?_map] at hp
    have : ∃ q, (t.head? = some q ∨ t.getLast? = some q) ∧ p = mvP b q := by
      rcases hp with hp | hp
      · obtain ⟨q, h1, h2⟩ := Option.map_eq_some_iff.1 hp
        exact ⟨q, .inl h1, h2.symm⟩
      · obtain ⟨q, h1, h2⟩ := Option.map_eq_some_iff.1 hp
        exact ⟨q, .inr h1, h2.symm⟩
    obtain ⟨q, hq, rfl⟩ := this
    rcases g q hq with g1 | g1
    · exact .inl ⟨q, g1, rfl⟩
    · refine .inr ?_
      have := tch_mv (b := b) g1
      unfold mvS at this
      rwa [List.map_append] at this
/-- a drawing is joined: its strokes' ends are 0, the width, or lie on another stroke; strokes come to 0 and to the width -/
structure Drw.Jd (d : Drw) : Prop where
  jn : Jn (fun p => p = (0, 0) ∨ p = (d.w, 0)) d.ss
  l : tch d.ss (0, 0)
  r : tch d.ss (d.w, 0)
theorem two_ends {a b p : Pt} (h : [a, b].head? = some p ∨ [a, b].getLast? = some p) : p = a ∨ p = b := by
  rcases h with h | h
  · simp at h; exact .inl h.symm
  · simp at h; exact .inr h.symm
theorem three_ends {a b c p : Pt} (h : [a, b, c].head? = some p ∨ [a, b, c].getLast? = some p) : p = a ∨ p = c := by
  rcases h with h | h
  · simp at h; exact .inl h.symm
  · simp at h; exact .inr h.symm
theorem four_ends {a b c d p : Pt} (h : [a, b, c, d].head? = some p ∨ [a, b, c, d].getLast? = some p) : p = a ∨ p = d := by
  rcases h with h | h
  · simp at h; exact .inl h.symm
  · simp at h; exact .inr h.symm
theorem Jn.two {a b : Pt} : Jn (fun p => p = a ∨ p = b) [[a, b]] := .one fun _ h => two_ends h
theorem Jn.three {a b c : Pt} : Jn (fun p => p = a ∨ p = c) [[a, b, c]] := .one fun _ h => three_ends h
theorem Jn.four {a b c d : Pt} : Jn (fun p => p = a ∨ p = d) [[a, b, c, d]] := .one fun _ h => four_ends h
theorem emptyD_jd : emptyD.Jd := ⟨Jn.two, tch_one (.inl (by simp only [btw]; omega)), tch_one (.inl (by simp only [btw, emptyD]; omega))⟩
theorem leafD_jd (s : ByteArray) : (leafD s).Jd := by
  have h1 : Jn (fun p => p = (0, 0) ∨ p = ((s.size : Int) + 4, 0)) ([[((0 : Int), (0 : Int)), (1, 0)]] ++ [boxP (s.size + 3) (-1) 1] ++ [[((s.size : Int) + 3, 0), ((s.size : Int) + 4, 0)]]) := by
    refine Jn.app (e := fun p => p = (0, 0)) (Jn.app (f := fun _ => False) Jn.two Jn.box ?_ (fun _ h => h.elim)) Jn.two (fun p h => .inl (.inl h)) ?_
    · rintro p (rfl | rfl)
      · exact .inl rfl
      · exact .inr (tch_one (.inr (.inr (.inr (.inl (by simp only [btw]; omega))))))
    · rintro p (rfl | rfl)
      · exact .inr (tch_right (tch_one (.inr (.inl (by simp only [btw]; omega)))))
      · exact .inl (.inr rfl)
  refine ⟨h1, ⟨[(0, 0), (1, 0)], by simp [leafD], .inl (by simp only [btw]; omega)⟩, ⟨[((s.size : Int) + 3, 0), ((s.size : Int) + 4, 0)], by simp [leafD], .inl (by simp only [btw, leafD]; omega)⟩⟩
theorem mv_zero (ss : List (List Pt)) : mvS (0, 0) ss = ss := by
  unfold mvS
  have : (fun s : List Pt => s.map (mvP (0, 0))) = id := funext fun s => by
    have : mvP (0, 0) = id := funext fun p => by simp [mvP]
    rw [this, List.map_id]; rfl
  rw [this, List.map_id]
theorem seqD0_jd {k : Drw} (h : k.Jd) : (seqD0 k).Jd := by
  have e : (seqD0 k).w = k.w := by show 0 + k.w = k.w; omega
  have e2 : (seqD0 k).ss = k.ss := mv_zero k.ss
  exact ⟨by rw [e, e2]; exact h.jn, by rw [e2]; exact h.l, by rw [e, e2]; exact h.r⟩
theorem seqD1_jd {d k : Drw} (hd : d.Jd) (h : k.Jd) (hw : 0 ≤ d.w) : (seqD1 d k).Jd := by
  have l1 : tch (mvS (d.w + 2, 0) k.ss) (d.w + 2, 0) := by
    have := tch_mv (b := (d.w + 2, 0)) h.l
    simpa [mvP] using this
  have r1 : tch (mvS (d.w + 2, 0) k.ss) (d.w + 2 + k.w, 0) := by
    have := tch_mv (b := (d.w + 2, 0)) h.r
    simp only [mvP] at this
    rwa [show k.w + (d.w + 2) = d.w + 2 + k.w by omega, show (0 : Int) + 0 = 0 by rfl] at this
  refine ⟨Jn.app (e := fun p => p = (0, 0) ∨ p = (d.w + 2, 0)) (Jn.app hd.jn Jn.two ?_ ?_) h.jn.mv ?_ ?_, tch_left (tch_left hd.l), tch_right r1⟩
  · rintro p (rfl | rfl)
    · exact .inl (.inl rfl)
    · exact .inr (tch_one (.inl (by simp only [btw]; omega)))
  · rintro p (rfl | rfl)
    · exact .inr hd.r
    · exact .inl (.inr rfl)
  · rintro p (rfl | rfl)
    · exact .inl (.inl rfl)
    · exact .inr l1
  · rintro p ⟨q, rfl | rfl, rfl⟩
    · refine .inr (tch_right (tch_one (.inl (by simp only [btw, mvP]; omega))))
    · refine .inl (.inr ?_)
      simp only [mvP, seqD1]
      rw [show k.w + (d.w + 2) = d.w + 2 + k.w by omega, show (0 : Int) + 0 = 0 by rfl]
theorem seqD_jd : ∀ {l : List Drw}, l ≠ [] → (∀ k ∈ l, k.Jd ∧ k.In) → (seqD l).Jd
  | [], h, _ => absurd rfl h
  | k :: l, _, h => by
    have : ∀ (l : List Drw) (d : Drw), d.Jd ∧ d.In → (∀ k ∈ l, k.Jd ∧ k.In) → (l.foldl seqD1 d).Jd := by
      intro l
      induction l with
      | nil => exact fun d hd _ => hd.1
      | cons x l ih => exact fun d hd hl => ih _ ⟨seqD1_jd hd.1 (hl x (by simp)).1 hd.2.w, seqD1_in hd.2 (hl x (by simp)).2⟩ (fun y hy => hl y (by simp [hy]))
    exact this l _ ⟨seqD0_jd (h k (by simp)).1, seqD0_in (h k (by simp)).2⟩ (fun x hx => h x (by simp [hx]))
/-- the first strokes of a track with a kid on it -/
theorem track_jd {k : Drw} {wd : Int} (h : k.Jd) (h0 : 0 ≤ k.w) (hw : k.w ≤ wd) :
    Jn (fun p => p = (0, 0) ∨ p = (wd + 4, 0)) ([[((0 : Int), (0 : Int)), (2, 0)]] ++ mvS (2, 0) k.ss ++ [[(2 + k.w, 0), (wd + 4, 0)]]) := by
  have l1 : tch (mvS (2, 0) k.ss) (2, 0) := by
    have := tch_mv (b := (2, 0)) h.l
    simpa [mvP] using this
  have r1 : tch (mvS (2, 0) k.ss) (2 + k.w, 0) := by
    have := tch_mv (b := (2, 0)) h.r
    simp only [mvP] at this
    rwa [show k.w + 2 = 2 + k.w by omega, show (0 : Int) + 0 = 0 by rfl] at this
  refine Jn.app (e := fun p => p = (0, 0) ∨ p = (2 + k.w, 0)) (Jn.app Jn.two h.jn.mv ?_ ?_) Jn.two ?_ ?_
  · rintro p (rfl | rfl)
    · exact .inl (.inl rfl)
    · exact .inr l1
  · rintro p ⟨q, rfl | rfl, rfl⟩
    · exact .inr (tch_one (.inl (by simp only [mvP, btw]; omega)))
    · refine .inl (.inr ?_)
      simp only [mvP]
      rw [show k.w + 2 = 2 + k.w by omega, show (0 : Int) + 0 = 0 by rfl]
  · rintro p (rfl | rfl)
    · exact .inl (.inl rfl)
    · exact .inr (tch_one (.inl (by simp only [btw]; omega)))
  · rintro p (rfl | rfl)
    · exact .inr (tch_right r1)
    · exact .inl (.inr rfl)
/-- what a Choice's further kids need of what is drawn -/
structure ChoJ (wd : Int) (d : Drw) : Prop where
  jd : d.Jd
  w : d.w = wd + 4
  a : tch d.ss (1, 0)
  b : tch d.ss (wd + 3, 0)
theorem choD0_jd {wd : Int} {k : Drw} (h : k.Jd) (h0 : 0 ≤ k.w) (hw : k.w ≤ wd) : ChoJ wd (choD0 wd k) :=
  ⟨⟨track_jd h h0 hw, tch_left (tch_left (tch_one (.inl (by simp only [btw]; omega)))), tch_right (tch_one (.inl (by simp only [btw, choD0]; omega)))⟩, rfl,
    tch_left (tch_left (tch_one (.inl (by simp only [btw]; omega)))), tch_right (tch_one (.inl (by simp only [btw]; omega)))⟩
theorem choD1_jd {wd : Int} {d k : Drw} (hd : ChoJ wd d) (h : k.Jd) (h0 : 0 ≤ k.w) (hw : k.w ≤ wd) : ChoJ wd (choD1 wd d k) := by
  have l1 : tch (mvS (2, d.dn + 1 + k.up) k.ss) (2, d.dn + 1 + k.up) := by
    have := tch_mv (b := (2, d.dn + 1 + k.up)) h.l
    simpa [mvP] using this
  have r1 : tch (mvS (2, d.dn + 1 + k.up) k.ss) (2 + k.w, d.dn + 1 + k.up) := by
    have := tch_mv (b := (2, d.dn + 1 + k.up)) h.r
    simp only [mvP] at this
    rwa [show k.w + 2 = 2 + k.w by omega, show 0 + (d.dn + 1 + k.up) = d.dn + 1 + k.up by omega] at this
  refine ⟨⟨?_, tch_left (tch_left (tch_left hd.jd.l)), tch_left (tch_left (tch_left hd.jd.r))⟩, hd.w, tch_left (tch_left (tch_left hd.a)), tch_left (tch_left (tch_left hd.b))⟩
  have hj : Jn (fun p => p = (0, 0) ∨ p = (d.w, 0)) d.ss := hd.jd.jn
  refine Jn.app (e := fun p => (p = (0, 0) ∨ p = (d.w, 0)) ∨ p = (2 + k.w, d.dn + 1 + k.up)) (Jn.app (e := fun p => (p = (0, 0) ∨ p = (d.w, 0)) ∨ p = (2, d.dn + 1 + k.up)) (Jn.app hj Jn.three ?_ ?_) h.jn.mv ?_ ?_) Jn.three ?_ ?_
  · exact fun p hp => .inl (.inl hp)
  · rintro p (rfl | rfl)
    · exact .inr hd.a
    · exact .inl (.inr rfl)
  · rintro p (hp | rfl)
    · exact .inl (.inl hp)
    · exact .inr l1
  · rintro p ⟨q, rfl | rfl, rfl⟩
    · exact .inr (tch_right (tch_one (.inr (.inl (by simp only [mvP, btw]; omega)))))
    · refine .inl (.inr ?_)
      simp only [mvP]
      rw [show k.w + 2 = 2 + k.w by omega, show 0 + (d.dn + 1 + k.up) = d.dn + 1 + k.up by omega]
  · rintro p (hp | rfl)
    · exact .inl hp
    · exact .inr (tch_one (.inl (by simp only [btw]; omega)))
  · rintro p (rfl | rfl)
    · exact .inr (tch_right r1)
    · exact .inr (tch_left (tch_left hd.b))
theorem choDw_jd {wd : Int} : ∀ {l : List Drw}, l ≠ [] → (∀ k ∈ l, k.Jd ∧ 0 ≤ k.w ∧ k.w ≤ wd) → (choDw wd l).Jd
  | [], h, _ => absurd rfl h
  | k :: l, _, h => by
    have : ∀ (l : List Drw) (d : Drw), ChoJ wd d → (∀ k ∈ l, k.Jd ∧ 0 ≤ k.w ∧ k.w ≤ wd) → ChoJ wd (l.foldl (choD1 wd) d) := by
      intro l
      induction l with
      | nil => exact fun d hd _ => hd
      | cons x l ih => exact fun d hd hl => ih _ (choD1_jd hd (hl x (by simp)).1 (hl x (by simp)).2.1 (hl x (by simp)).2.2) (fun y hy => hl y (by simp [hy]))
    exact (this l _ (choD0_jd (h k (by simp)).1 (h k (by simp)).2.1 (h k (by simp)).2.2) (fun x hx => h x (by simp [hx]))).jd
theorem choD_jd {l : List Drw} (hl : l ≠ []) (h : ∀ k ∈ l, k.Jd ∧ k.In) : (choD l).Jd :=
  choDw_jd hl (fun k hk => ⟨(h k hk).1, (h k hk).2.w, (widest_ge l 0).2 k hk⟩)
theorem wideD_le {s : ByteArray} {k : Drw} : k.w ≤ wideD s k := by unfold wideD; omega
theorem framedD_jd {s : ByteArray} {k : Drw} (h : k.Jd) (h0 : 0 ≤ k.w) : (framedD s k).Jd := by
  have hw : k.w ≤ wideD s k := wideD_le
  exact ⟨Jn.app (f := fun _ => False) (track_jd h h0 hw) Jn.box (fun p hp => .inl hp) (fun _ hp => hp.elim), tch_left (tch_left (tch_left (tch_one (.inl (by simp only [btw]; omega))))), tch_left (tch_right (tch_one (.inl (by simp only [btw, framedD, throughD]; omega))))⟩
theorem repD_jd {n : Nod} {s : ByteArray} {k : Drw} (h : k.Jd) (h0 : 0 ≤ k.w) : (repD n s k).Jd := by
  have hw : k.w ≤ wideD s k := wideD_le
  have ha : tch ([[((0 : Int), (0 : Int)), (2, 0)]] ++ mvS (2, 0) k.ss ++ [[(2 + k.w, 0), (wideD s k + 4, 0)]]) (1, 0) := tch_left (tch_left (tch_one (.inl (by simp only [btw]; omega))))
  have hb : tch ([[((0 : Int), (0 : Int)), (2, 0)]] ++ mvS (2, 0) k.ss ++ [[(2 + k.w, 0), (wideD s k + 4, 0)]]) (wideD s k + 3, 0) := tch_right (tch_one (.inl (by simp only [btw]; omega)))
  refine ⟨Jn.app (f := fun p => p = (1, 0) ∨ p = (wideD s k + 3, 0)) (Jn.app (f := fun p => p = (1, 0) ∨ p = (wideD s k + 3, 0)) (track_jd h h0 hw) ?_ (fun p hp => .inl hp) ?_) ?_ (fun p hp => .inl hp) ?_, tch_left (tch_left (tch_left (tch_left (tch_one (.inl (by simp only [btw]; omega)))))), tch_left (tch_left (tch_right (tch_one (.inl (by simp only [btw, repD, throughD]; omega)))))⟩
  · unfold repS1
    split
    · exact Jn.four.weak (fun p hp => hp.symm)
    · exact Jn.nil
  · rintro p (rfl | rfl)
    · exact .inr ha
    · exact .inr hb
  · unfold repS2
    split
    · exact Jn.four
    · exact Jn.nil
  · rintro p (rfl | rfl)
    · exact .inr (tch_left ha)
    · exact .inr (tch_left hb)
end Go.Bonsai
/- How much is drawn: bounds by the nodes; what a tree's drawing is. -/
namespace Go.Bonsai
open Go
/-- a drawing within, no wider than W, no higher than H, of no more than S strokes, and labels -/
structure Drw.OkT (W H S : Nat) (d : Drw) : Prop where
  in_ : d.In
  w : d.w ≤ W
  h : d.up + d.dn ≤ H
  ss : d.ss.length ≤ S
  ls : d.ls.length ≤ S
  five : ∀ s ∈ d.ss, s.length ≤ 5
theorem Drw.OkT.more {W H S W' H' S' : Nat} {d : Drw} (h : d.OkT W H S) (h1 : W ≤ W') (h2 : H ≤ H') (h3 : S ≤ S') : d.OkT W' H' S' :=
  ⟨h.in_, by have := h.w; omega, by have := h.h; omega, Nat.le_trans h.ss h3, Nat.le_trans h.ls h3, h.five⟩
theorem Drw.OkT.ok {W H S K : Nat} {d : Drw} (h : d.OkT W H S) (h1 : W ≤ K) (h2 : H ≤ K) (h3 : S ≤ K) : d.Ok K := by
  have a := h.w; have b := h.h; have c := h.in_.up; have e := h.in_.dn
  exact ⟨h.in_, by omega, by omega, by omega, Nat.le_trans h.ss h3, Nat.le_trans h.ls h3, h.five⟩
theorem mvS_len {q : Pt} {ss : List (List Pt)} : (mvS q ss).length = ss.length := by simp [mvS]
theorem mvL_len {q : Pt} {ls : List (Pt × ByteArray)} : (mvL q ls).length = ls.length := by simp [mvL]
theorem mvS_five {q : Pt} {ss : List (List Pt)} (h : ∀ s ∈ ss, s.length ≤ 5) : ∀ s ∈ mvS q ss, s.length ≤ 5 := fun s hs => by
  obtain ⟨t, ht, rfl⟩ := List.mem_map.1 hs
  rw [List.length_map]; exact h t ht
theorem five_app {a b : List (List Pt)} (ha : ∀ s ∈ a, s.length ≤ 5) (hb : ∀ s ∈ b, s.length ≤ 5) : ∀ s ∈ a ++ b, s.length ≤ 5 := fun s hs => by
  rcases List.mem_append.1 hs with h | h
  · exact ha s h
  · exact hb s h
theorem five_one {s : List Pt} (h : s.length ≤ 5) : ∀ t ∈ [s], t.length ≤ 5 := fun t ht => by rw [List.mem_singleton] at ht; subst ht; exact h
theorem leafD_ok (s : ByteArray) : (leafD s).OkT (s.size + 4) 2 3 :=
  ⟨leafD_in s, by show (s.size : Int) + 4 ≤ _; omega, by show (1 : Int) + 1 ≤ 2; decide, Nat.le_refl 3, by show 1 ≤ 3; omega, fun t ht => by
    simp only [leafD, List.mem_cons, List.not_mem_nil, or_false] at ht
    rcases ht with rfl | rfl | rfl <;> simp [boxP]⟩
theorem emptyD_ok : emptyD.OkT 2 0 1 := ⟨emptyD_in, by decide, by decide, Nat.le_refl 1, Nat.zero_le _, five_one (by simp)⟩
theorem seqD0_ok {k : Drw} {W H S : Nat} (h : k.OkT W H S) : (seqD0 k).OkT W H S := by
  have a := h.in_.w; have b := h.in_.up; have c := h.in_.dn; have d := h.w; have e := h.h
  exact ⟨seqD0_in h.in_, by show 0 + k.w ≤ _; omega, by show max 0 k.up + max 0 k.dn ≤ _; omega, by show (mvS _ _).length ≤ _; rw [mvS_len]; exact h.ss, by show (mvL _ _).length ≤ _; rw [mvL_len]; exact h.ls, mvS_five h.five⟩
theorem seqD1_ok {d k : Drw} {W H S W' H' S' : Nat} (hd : d.OkT W H S) (h : k.OkT W' H' S') : (seqD1 d k).OkT (W + W' + 2) (H + H') (S + S' + 1) := by
  have a := h.in_.w; have b := h.in_.up; have c := h.in_.dn; have d' := h.w; have e := h.h
  have a2 := hd.in_.w; have b2 := hd.in_.up; have c2 := hd.in_.dn; have d2 := hd.w; have e2 := hd.h
  have s1 := h.ss; have s2 := hd.ss; have l1 := h.ls; have l2 := hd.ls
  refine ⟨seqD1_in hd.in_ h.in_, by show d.w + 2 + k.w ≤ _; omega, by show max d.up k.up + max d.dn k.dn ≤ _; omega, ?_, ?_, five_app (five_app hd.five (five_one (by simp))) (mvS_five h.five)⟩
  · simp only [seqD1, List.length_append, mvS_len, List.length_cons, List.length_nil]; omega
  · simp only [seqD1, List.length_append, mvL_len]; omega
theorem choD0_ok {wd : Int} {k : Drw} {W H S W' : Nat} (h : k.OkT W H S) (hw : k.w ≤ wd) (hW : wd + 4 ≤ W') : (choD0 wd k).OkT W' H (S + 2) := by
  have s1 := h.ss; have l1 := h.ls
  refine ⟨(choD0_in h.in_ hw).1, hW, h.h, ?_, ?_, five_app (five_app (five_one (by simp)) (mvS_five h.five)) (five_one (by simp))⟩
  · simp only [choD0, List.length_append, mvS_len, List.length_cons, List.length_nil]; omega
  · simp only [choD0, mvL_len]; omega
theorem choD1_ok {wd : Int} {d k : Drw} {W H S W' H' S' : Nat} (hd : d.OkT W H S) (hdw : d.w = wd + 4) (h : k.OkT W' H' S') (hw : k.w ≤ wd) : (choD1 wd d k).OkT W (H + H' + 1) (S + S' + 2) ∧ (choD1 wd d k).w = wd + 4 := by
  have s1 := h.ss; have s2 := hd.ss; have l1 := h.ls; have l2 := hd.ls; have e := h.h; have e2 := hd.h
  refine ⟨⟨(choD1_in hd.in_ h.in_ hw hdw).1, hd.w, by show d.up + (d.dn + 1 + k.up + k.dn) ≤ _; omega, ?_, ?_, five_app (five_app (five_app hd.five (five_one (by simp))) (mvS_five h.five)) (five_one (by simp))⟩, hdw⟩
  · simp only [choD1, List.length_append, mvS_len, List.length_cons, List.length_nil]; omega
  · simp only [choD1, List.length_append, mvL_len]; omega
theorem throughD_five {y : Int} {s : ByteArray} {k : Drw} (h : ∀ t ∈ k.ss, t.length ≤ 5) : ∀ t ∈ (throughD y s k).ss, t.length ≤ 5 := five_app (five_app (five_one (by simp)) (mvS_five h)) (five_one (by simp))
theorem framedD_ok {s : ByteArray} {k : Drw} {W H S : Nat} (h : k.OkT W H S) : (framedD s k).OkT (W + s.size + 4) (H + 3) (S + 3) := by
  have a := h.in_.w; have d := h.w; have e := h.h; have s1 := h.ss; have l1 := h.ls
  refine ⟨framedD_in h.in_, ?_, ?_, ?_, ?_, five_app (throughD_five h.five) (five_one (by simp [boxP]))⟩
  · show wideD s k + 4 ≤ _; unfold wideD; omega
  · show k.up + 2 + (k.dn + 1) ≤ _; omega
  · simp only [framedD, throughD, List.length_append, mvS_len, List.length_cons, List.length_nil]; omega
  · simp only [framedD, throughD, List.length_append, mvL_len, List.length_cons, List.length_nil]; omega
theorem repD_ok {n : Nod} {s : ByteArray} {k : Drw} {W H S : Nat} (h : k.OkT W H S) : (repD n s k).OkT (W + s.size + 4) (H + 3) (S + 4) := by
  have a := h.in_.w; have d := h.w; have e := h.h; have s1 := h.ss; have l1 := h.ls
  have r1 : (repS1 n (wideD s k) k).length ≤ 1 := by unfold repS1; split <;> simp
  have r2 : (repS2 n (wideD s k) k).length ≤ 1 := by unfold repS2; split <;> simp
  refine ⟨repD_in h.in_, ?_, ?_, ?_, ?_, five_app (five_app (throughD_five h.five) ?_) ?_⟩
  · show wideD s k + 4 ≤ _; unfold wideD; omega
  · show k.up + 2 + (if n.min = 0 then k.dn + 1 else k.dn) ≤ _; split <;> omega
  · simp only [repD, throughD, List.length_append, mvS_len, List.length_cons, List.length_nil]; omega
  · simp only [repD, throughD, List.length_append, mvL_len, List.length_cons, List.length_nil]; omega
  · unfold repS1; split
    · exact five_one (by simp)
    · exact fun t ht => by cases ht
  · unfold repS2; split
    · exact five_one (by simp)
    · exact fun t ht => by cases ht
/-- kids and their bounds together -/
def bsum (ks : List Nat) : Nat := (ks.map (· + 2)).sum
theorem bsum_snoc (a : List Nat) (b : Nat) : bsum (a ++ [b]) = bsum a + (b + 2) := by unfold bsum; rw [List.map_append, List.sum_append]; rfl
theorem bsum_take_le (ks : List Nat) (i : Nat) : bsum (ks.take i) ≤ bsum ks := by
  unfold bsum
  have : ks.map (· + 2) = (ks.take i).map (· + 2) ++ (ks.drop i).map (· + 2) := by rw [← List.map_append, List.take_append_drop]
  rw [this, List.sum_append]
  omega
theorem seqD_take_ok : ∀ (l : List Drw) (ks : List Nat), l.length = ks.length → (∀ (i : Nat) (k : Drw) (b : Nat), l[i]? = some k → ks[i]? = some b → k.OkT b b b) → ∀ i, i ≤ l.length → (seqD (l.take i)).OkT (bsum (ks.take i)) (bsum (ks.take i)) (bsum (ks.take i)) := by
  intro l ks hl h i
  induction i with
  | zero => exact fun _ => ⟨⟨Int.le_refl 0, Int.le_refl 0, Int.le_refl 0, inS_nil, inL_nil⟩, Int.le_refl 0, Int.le_refl 0, Nat.zero_le _, Nat.zero_le _, fun s hs => by cases hs⟩
  | succ i ih =>
    intro hi
    have hlt : i < l.length := hi
    have hlk : i < ks.length := by omega
    have hk := h i _ _ (List.getElem?_eq_getElem hlt) (List.getElem?_eq_getElem hlk)
    have e1 : l.take (i + 1) = l.take i ++ [l[i]] := List.take_succ_eq_append_getElem hlt
    have e2 : ks.take (i + 1) = ks.take i ++ [ks[i]] := List.take_succ_eq_append_getElem hlk
    have e3 : bsum (ks.take (i + 1)) = bsum (ks.take i) + (ks[i] + 2) := by rw [e2, bsum_snoc]
    have ih := ih (by omega)
    rw [e3]
    cases hli : l.take i with
    | nil =>
      rw [e1, hli]
      exact (seqD0_ok hk).more (by omega) (by omega) (by omega)
    | cons x r =>
      have e4 : seqD (l.take (i + 1)) = seqD1 (seqD (l.take i)) l[i] := by
        rw [e1, hli]
        simp only [List.cons_append, seqD, List.foldl_append, List.foldl_cons, List.foldl_nil]
      rw [e4]
      exact (seqD1_ok ih hk).more (by omega) (by omega) (by omega)
theorem widest_le {l : List Drw} {B : Int} (h0 : 0 ≤ B) (h : ∀ k ∈ l, k.w ≤ B) : widest l ≤ B := by
  have : ∀ (l : List Drw) (m : Int), m ≤ B → (∀ k ∈ l, k.w ≤ B) → l.foldl (fun m k => max m k.w) m ≤ B := by
    intro l
    induction l with
    | nil => exact fun m hm _ => hm
    | cons x l ih => exact fun m hm hl => ih _ (by have := hl x (by simp); show max m x.w ≤ B; omega) (fun k hk => hl k (by simp [hk]))
  exact this l 0 h0 h
theorem le_bsum {ks : List Nat} {b : Nat} (h : b ∈ ks) : b + 2 ≤ bsum ks := by
  induction ks with
  | nil => cases h
  | cons x r ih =>
    have e : bsum (x :: r) = x + 2 + bsum r := by simp [bsum]
    rcases List.mem_cons.1 h with rfl | h
    · omega
    · have := ih h; omega
theorem choDw_take_ok {wd : Int} : ∀ (l : List Drw) (ks : List Nat), l.length = ks.length → (∀ (i : Nat) (k : Drw) (b : Nat), l[i]? = some k → ks[i]? = some b → k.OkT b b b) → (∀ k ∈ l, k.w ≤ wd) → wd ≤ bsum ks → ∀ i, i ≤ l.length → 0 < i →
    (choDw wd (l.take i)).OkT (bsum ks + 4) (bsum (ks.take i)) (bsum (ks.take i)) ∧ (choDw wd (l.take i)).w = wd + 4 := by
  intro l ks hl h hw hb i
  induction i with
  | zero => exact fun _ h => absurd h (Nat.lt_irrefl 0)
  | succ i ih =>
    intro hi _
    have hlt : i < l.length := hi
    have hlk : i < ks.length := by omega
    have hk := h i _ _ (List.getElem?_eq_getElem hlt) (List.getElem?_eq_getElem hlk)
    have hkw := hw _ (List.getElem_mem hlt)
    have e1 : l.take (i + 1) = l.take i ++ [l[i]] := List.take_succ_eq_append_getElem hlt
    have e2 : ks.take (i + 1) = ks.take i ++ [ks[i]] := List.take_succ_eq_append_getElem hlk
    have e3 : bsum (ks.take (i + 1)) = bsum (ks.take i) + (ks[i] + 2) := by rw [e2, bsum_snoc]
    rw [e3]
    cases hli : l.take i with
    | nil =>
      rw [e1, hli]
      exact ⟨(choD0_ok (W' := bsum ks + 4) hk hkw (by omega)).more (Nat.le_refl _) (by omega) (by omega), rfl⟩
    | cons x r =>
      have hi0 : 0 < i := by
        rcases Nat.eq_zero_or_pos i with h0 | h0
        · subst h0; simp at hli
        · exact h0
      obtain ⟨ih1, ih2⟩ := ih (by omega) hi0
      have e4 : choDw wd (l.take (i + 1)) = choD1 wd (choDw wd (l.take i)) l[i] := by
        rw [e1, hli]
        simp only [List.cons_append, choDw, List.foldl_append, List.foldl_cons, List.foldl_nil]
      rw [e4]
      obtain ⟨g1, g2⟩ := choD1_ok ih1 ih2 hk hkw
      exact ⟨g1.more (Nat.le_refl _) (by omega) (by omega), g2⟩
end Go.Bonsai
/- What a tree draws, pure: by the kinds, over forests; how much that is; that it is within and joined. -/
namespace Go.Bonsai
open Go
/-- what a node draws of its kids' drawings -/
def nodeD (n : Nod) (ks : List Drw) : Drw :=
  if n.kind = 1 then leafD ⟨(classB n.set).toArray⟩
  else if n.kind = 2 then leafD ⟨(litB n.text).toArray⟩
  else if n.kind = 3 then leafD n.text
  else if n.kind = 4 then seqD ks
  else if n.kind = 5 then choD ks
  else if n.kind = 6 then repD n (countB n.min n.max) (ks.getD 0 .zero)
  else if n.kind = 7 then framedD ⟨#[38]⟩ (ks.getD 0 .zero)
  else if n.kind = 8 then framedD ⟨#[33]⟩ (ks.getD 0 .zero)
  else if n.kind = 9 then framedD (n.text ++ ⟨#[58]⟩) (ks.getD 0 .zero)
  else emptyD
theorem nodeD_kids (n : Nod) (l : List Int) (ks : List Drw) : nodeD { n with kids := l } ks = nodeD n ks := rfl
def Fo.drw : Fo → List Drw
  | nil => []
  | cons n k r => nodeD n k.drw :: r.drw
theorem Fo.drw_len : ∀ F : Fo, F.drw.length = F.len
  | nil => rfl
  | cons n k r => by simp [Fo.drw, Fo.len, Fo.drw_len r]
theorem Fo.drw_app : ∀ F G : Fo, (F.app G).drw = F.drw ++ G.drw
  | nil, G => rfl
  | cons n k r, G => by simp [Fo.drw, Fo.app, Fo.drw_app r G]
theorem countB_size {a b : Int} (ha : 0 ≤ a ∧ a < 100) (hb : -1 ≤ b ∧ b < 100) : (countB a b).size ≤ 7 ∧ 1 ≤ (countB a b).size := by
  have h1 := smallB_size a.toNat
  have h2 := smallB_size b.toNat
  have e1 : (⟨#[123]⟩ : ByteArray).size = 1 := rfl
  have e2 : (⟨#[125]⟩ : ByteArray).size = 1 := rfl
  have e3 : (⟨#[44, 125]⟩ : ByteArray).size = 2 := rfl
  have e4 : (⟨#[44]⟩ : ByteArray).size = 1 := rfl
  have e5 : (⟨#[63]⟩ : ByteArray).size = 1 := rfl
  have e6 : (⟨#[42]⟩ : ByteArray).size = 1 := rfl
  have e7 : (⟨#[43]⟩ : ByteArray).size = 1 := rfl
  unfold countB
  repeat' split
  all_goals (try simp only [ByteArray.size_append]); omega
/-- a drawing's budget, a node: label and frame -/
def budC : Nat := 4000
theorem OkT.at_ {W H S b : Nat} {d : Drw} (h : d.OkT W H S) (h1 : W ≤ b) (h2 : H ≤ b) (h3 : S ≤ b) : d.OkT b b b := h.more h1 h2 h3
/-- drawings with their bounds -/
structure OkL (l : List Drw) (ks : List Nat) : Prop where
  len : l.length = ks.length
  ok : ∀ (i : Nat) (k : Drw) (b : Nat), l[i]? = some k → ks[i]? = some b → k.OkT b b b
theorem OkL.nil : OkL [] [] := ⟨rfl, fun i k b h => by simp at h⟩
theorem OkL.cons {d : Drw} {b : Nat} {l : List Drw} {ks : List Nat} (h : d.OkT b b b) (hl : OkL l ks) : OkL (d :: l) (b :: ks) :=
  ⟨by simp [hl.len], fun i k c h1 h2 => by
    cases i with
    | zero => simp at h1 h2; subst h1; subst h2; exact h
    | succ i => exact hl.ok i k c (by simpa using h1) (by simpa using h2)⟩
theorem OkL.get {l : List Drw} {ks : List Nat} (h : OkL l ks) {i : Nat} {k : Drw} (hi : l[i]? = some k) : ∃ b, ks[i]? = some b ∧ k.OkT b b b ∧ b + 2 ≤ bsum ks := by
  have hlt : i < ks.length := by rw [← h.len]; exact (List.getElem?_eq_some_iff.1 hi).1
  have hg : ks[i]? = some ks[i] := List.getElem?_eq_getElem hlt
  exact ⟨ks[i], hg, h.ok i k _ hi hg, le_bsum (List.getElem_mem hlt)⟩
theorem OkL.mem {l : List Drw} {ks : List Nat} (h : OkL l ks) {k : Drw} (hk : k ∈ l) : ∃ b, k.OkT b b b ∧ b + 2 ≤ bsum ks := by
  obtain ⟨i, hi⟩ := List.mem_iff_getElem?.1 hk
  obtain ⟨b, _, h1, h2⟩ := h.get hi
  exact ⟨b, h1, h2⟩
theorem OkL.widest_le {l : List Drw} {ks : List Nat} (h : OkL l ks) : widest l ≤ (bsum ks : Int) :=
  Bonsai.widest_le (by omega) (fun k hk => by obtain ⟨b, h1, h2⟩ := h.mem hk; have := h1.w; omega)
theorem OkL.seq {l : List Drw} {ks : List Nat} (h : OkL l ks) (i : Nat) (hi : i ≤ l.length) : (seqD (l.take i)).OkT (bsum ks) (bsum ks) (bsum ks) :=
  (seqD_take_ok l ks h.len h.ok i hi).more (bsum_take_le ks i) (bsum_take_le ks i) (bsum_take_le ks i)
theorem OkL.cho {l : List Drw} {ks : List Nat} (h : OkL l ks) (i : Nat) (hi : i ≤ l.length) (h0 : 0 < i) : (choDw (widest l) (l.take i)).OkT (bsum ks + 4) (bsum ks) (bsum ks) :=
  ((choDw_take_ok l ks h.len h.ok (fun k hk => (widest_ge l 0).2 k hk) h.widest_le i hi h0).1).more (Nat.le_refl _) (bsum_take_le ks i) (bsum_take_le ks i)
/-- what `fits` says of a node to be drawn -/
structure FitD (n : Nod) (c : Nat) : Prop where
  kind : 0 ≤ n.kind ∧ n.kind ≤ 9
  text : n.text.size ≤ 255
  min : 0 ≤ n.min ∧ n.min < 100
  max : -1 ≤ n.max ∧ n.max < 100
  leaf : n.kind ≤ 3 → c = 0
  two : n.kind = 4 ∨ n.kind = 5 → 2 ≤ c
  one : 6 ≤ n.kind → c = 1
  lit : n.kind = 2 ∨ n.kind = 3 ∨ n.kind = 9 → 1 ≤ n.text.size
theorem mayB_size {s : ByteArray} (h : mayB s = true) : 1 ≤ s.size ∧ s.size ≤ 32 := by
  rw [mayB_eq] at h
  simp only [Bool.and_eq_true, decide_eq_true_eq, Bool.not_eq_true', decide_eq_false_iff_not] at h
  refine ⟨?_, h.1.2⟩
  rcases Nat.eq_zero_or_pos s.size with h0 | h0
  · exfalso
    apply h.1.1
    obtain ⟨d⟩ := s
    have : d.size = 0 := h0
    have : d = #[] := Array.eq_empty_of_size_eq_zero this
    rw [this]
  · exact h0
theorem ne_size {s : ByteArray} (h : ¬ s = ⟨#[]⟩) : 1 ≤ s.size := by
  rcases Nat.eq_zero_or_pos s.size with h0 | h0
  · exfalso
    apply h
    obtain ⟨d⟩ := s
    have : d.size = 0 := h0
    have : d = #[] := Array.eq_empty_of_size_eq_zero this
    rw [this]
  · exact h0
theorem fitD {n : Nod} {c : Nat} (h : fits n c = true) : FitD n c := by
  have e0 : (⟨#[]⟩ : ByteArray).size = 0 := rfl
  unfold fits at h
  split at h
  · rename_i hk
    simp only [Bool.and_eq_true, decide_eq_true_eq] at h
    obtain ⟨⟨⟨⟨h1, h2⟩, h3⟩, h4⟩, h5⟩ := h
    exact ⟨by omega, by rw [h2, e0]; omega, by omega, by omega, by omega, by omega, by omega, by omega⟩
  · split at h
    · simp only [Bool.and_eq_true, decide_eq_true_eq] at h
      obtain ⟨⟨⟨h2, h3⟩, h4⟩, h5⟩ := h
      exact ⟨by omega, by rw [h2, e0]; omega, by omega, by omega, by omega, by omega, by omega, by omega⟩
    · split at h
      · simp only [Bool.and_eq_true, decide_eq_true_eq, Bool.not_eq_true', decide_eq_false_iff_not] at h
        obtain ⟨⟨⟨⟨⟨h1, h2⟩, h3⟩, h4⟩, h5⟩, h6⟩ := h
        have := ne_size h5
        exact ⟨by omega, by omega, by omega, by omega, by omega, by omega, by omega, by omega⟩
      · split at h
        · simp only [Bool.and_eq_true, decide_eq_true_eq] at h
          obtain ⟨⟨⟨⟨h1, h2⟩, h3⟩, h4⟩, h5⟩ := h
          have := mayB_size h5
          exact ⟨by omega, by omega, by omega, by omega, by omega, by omega, by omega, by omega⟩
        · split at h
          · simp only [Bool.and_eq_true, decide_eq_true_eq] at h
            obtain ⟨⟨⟨⟨h1, h2⟩, h3⟩, h4⟩, h5⟩ := h
            exact ⟨by omega, by rw [h2, e0]; omega, by omega, by omega, by omega, by omega, by omega, by omega⟩
          · split at h
            · simp only [Bool.and_eq_true, Bool.or_eq_true, decide_eq_true_eq] at h
              obtain ⟨⟨⟨⟨⟨h1, h2⟩, h3⟩, h4⟩, h5⟩, h6⟩ := h
              exact ⟨by omega, by rw [h2, e0]; omega, by omega, by omega, by omega, by omega, by omega, by omega⟩
            · split at h
              · simp only [Bool.and_eq_true, decide_eq_true_eq] at h
                obtain ⟨⟨⟨⟨h1, h2⟩, h3⟩, h4⟩, h5⟩ := h
                exact ⟨by omega, by rw [h2, e0]; omega, by omega, by omega, by omega, by omega, by omega, by omega⟩
              · split at h
                · simp only [Bool.and_eq_true, decide_eq_true_eq] at h
                  obtain ⟨⟨⟨⟨h1, h2⟩, h3⟩, h4⟩, h5⟩ := h
                  have := mayB_size h5
                  exact ⟨by omega, by omega, by omega, by omega, by omega, by omega, by omega, by omega⟩
                · cases h
theorem arr_size (l : List UInt8) : (⟨l.toArray⟩ : ByteArray).size = l.length := by show l.toArray.size = _; simp
theorem litB_le (s : ByteArray) : (litB s).length ≤ 4 * s.size + 2 := by
  have h := signsB_len ⟨#[34]⟩ s.data.toList
  have hsl : s.data.toList.length = s.size := by rw [Array.length_toList]; rfl
  unfold litB
  simp only [List.length_append, List.length_singleton]
  omega
theorem one_kid {l : List Drw} (h : l.length = 1) : ∃ k, l = [k] := List.length_eq_one_iff.1 h
theorem nodeD_ok {n : Nod} {l : List Drw} {ks : List Nat} {s : Nat} (hf : FitD n l.length) (h : OkL l ks) (hs : bsum ks ≤ 4000 * s) : (nodeD n l).OkT (4000 * (s + 1) - 2) (4000 * (s + 1) - 2) (4000 * (s + 1) - 2) := by
  have e38 : (⟨#[38]⟩ : ByteArray).size = 1 := rfl
  have e33 : (⟨#[33]⟩ : ByteArray).size = 1 := rfl
  have e58 : (⟨#[58]⟩ : ByteArray).size = 1 := rfl
  have hk := hf.kind
  have ht := hf.text
  unfold nodeD
  split
  · have h1 := classB_len n.set
    have h2 := leafD_ok ⟨(classB n.set).toArray⟩
    rw [arr_size] at h2
    exact h2.more (by omega) (by omega) (by omega)
  · split
    · have h1 := litB_le n.text
      have h2 := leafD_ok ⟨(litB n.text).toArray⟩
      rw [arr_size] at h2
      exact h2.more (by omega) (by omega) (by omega)
    · split
      · exact (leafD_ok n.text).more (by omega) (by omega) (by omega)
      · split
        · have := h.seq l.length (Nat.le_refl _)
          rw [List.take_length] at this
          exact this.more (by omega) (by omega) (by omega)
        · split
          · rename_i h5
            have h2 := hf.two (.inr h5)
            have := h.cho l.length (Nat.le_refl _) (by omega)
            rw [List.take_length] at this
            exact this.more (by omega) (by omega) (by omega)
          · split
            · rename_i h6
              obtain ⟨k, rfl⟩ := one_kid (hf.one (by omega))
              obtain ⟨b, _, h1, h2⟩ := h.get (i := 0) (k := k) rfl
              have h3 := (countB_size hf.min hf.max).1
              exact (repD_ok (n := n) (s := countB n.min n.max) h1).more (by omega) (by omega) (by omega)
            · split
              · obtain ⟨k, rfl⟩ := one_kid (hf.one (by omega))
                obtain ⟨b, _, h1, h2⟩ := h.get (i := 0) (k := k) rfl
                exact (framedD_ok (s := ⟨#[38]⟩) h1).more (by omega) (by omega) (by omega)
              · split
                · obtain ⟨k, rfl⟩ := one_kid (hf.one (by omega))
                  obtain ⟨b, _, h1, h2⟩ := h.get (i := 0) (k := k) rfl
                  exact (framedD_ok (s := ⟨#[33]⟩) h1).more (by omega) (by omega) (by omega)
                · split
                  · obtain ⟨k, rfl⟩ := one_kid (hf.one (by omega))
                    obtain ⟨b, _, h1, h2⟩ := h.get (i := 0) (k := k) rfl
                    have e : (n.text ++ (⟨#[58]⟩ : ByteArray)).size = n.text.size + 1 := by rw [ByteArray.size_append, e58]
                    generalize n.text ++ (⟨#[58]⟩ : ByteArray) = tt at *
                    exact (framedD_ok (s := tt) h1).more (by omega) (by omega) (by omega)
                  · exact emptyD_ok.more (by omega) (by omega) (by omega)
theorem nodeD_jd {n : Nod} {l : List Drw} (hf : FitD n l.length) (h : ∀ k ∈ l, k.Jd ∧ k.In) : (nodeD n l).Jd := by
  have hk := hf.kind
  unfold nodeD
  split
  · exact leafD_jd _
  · split
    · exact leafD_jd _
    · split
      · exact leafD_jd _
      · split
        · rename_i h4
          have := hf.two (.inl h4)
          exact seqD_jd (fun e => by subst e; simp at this) h
        · split
          · rename_i h5
            have := hf.two (.inr h5)
            exact choD_jd (fun e => by subst e; simp at this) h
          · split
            · obtain ⟨k, rfl⟩ := one_kid (hf.one (by omega))
              obtain ⟨h1, h2⟩ := h k (by simp)
              exact repD_jd h1 h2.w
            · split
              · obtain ⟨k, rfl⟩ := one_kid (hf.one (by omega))
                obtain ⟨h1, h2⟩ := h k (by simp)
                exact framedD_jd h1 h2.w
              · split
                · obtain ⟨k, rfl⟩ := one_kid (hf.one (by omega))
                  obtain ⟨h1, h2⟩ := h k (by simp)
                  exact framedD_jd h1 h2.w
                · split
                  · obtain ⟨k, rfl⟩ := one_kid (hf.one (by omega))
                    obtain ⟨h1, h2⟩ := h k (by simp)
                    exact framedD_jd h1 h2.w
                  · exact emptyD_jd
/-- all that a forest draws -/
theorem Fo.drw_ok : ∀ F : Fo, F.fit = true → ∃ ks, OkL F.drw ks ∧ bsum ks ≤ 4000 * F.size ∧ ∀ d ∈ F.drw, d.Jd ∧ d.In
  | nil, _ => ⟨[], .nil, by simp [bsum], fun d hd => by cases hd⟩
  | cons n k r, h => by
    simp only [Fo.fit, Bool.and_eq_true] at h
    obtain ⟨⟨h1, h2⟩, h3⟩ := h
    obtain ⟨k1, a1, a2, a3⟩ := Fo.drw_ok k h2
    obtain ⟨k2, b1, b2, b3⟩ := Fo.drw_ok r h3
    rw [← Fo.drw_len] at h1
    have hf := fitD h1
    have ho := nodeD_ok hf a1 a2
    refine ⟨(4000 * (k.size + 1) - 2) :: k2, .cons ho b1, ?_, fun d hd => ?_⟩
    · have e : bsum ((4000 * (k.size + 1) - 2) :: k2) = (4000 * (k.size + 1) - 2) + 2 + bsum k2 := by simp [bsum]
      rw [e]
      simp only [Fo.size]
      omega
    · rcases List.mem_cons.1 hd with rfl | hd
      · exact ⟨nodeD_jd hf a3, ho.in_⟩
      · exact b3 d hd
/-! ### arenas -/
/-- the drawing of a node of an arena -/
def drwAt (ns : List Nod) (k : Int) : Drw := (foOf ns ns.length [k]).drw.getD 0 .zero
theorem foOf_drw (ns : List Nod) (h : 0 < ns.length) (l : List Int) : (foOf ns ns.length l).drw = l.map (drwAt ns) := by
  obtain ⟨f, hf⟩ : ∃ f, ns.length = f + 1 := ⟨ns.length - 1, by omega⟩
  unfold drwAt
  rw [hf]
  induction l with
  | nil => rfl
  | cons k l ih => rw [foOf_cons, Fo.drw, ih]; rfl
theorem drwAt_get {ns : List Nod} (hk : KOk ns) {i : Nat} {n : Nod} (hi : ns[i]? = some n) : drwAt ns i = nodeD n (n.kids.map (drwAt ns)) := by
  have hlt := (List.getElem?_eq_some_iff.1 hi).1
  obtain ⟨f, hf⟩ : ∃ f, ns.length = f + 1 := ⟨ns.length - 1, by omega⟩
  have e1 : drwAt ns i = nodeD (dat ns i) (foOf ns f (chOf ns i)).drw := by
    unfold drwAt
    rw [hf, foOf_cons, Fo.drw]
    rfl
  have hc : ∀ k ∈ chOf ns i, 0 ≤ k ∧ k < i := hk.chOf i
  have e2 : foOf ns f (chOf ns i) = foOf ns ns.length (chOf ns i) :=
    foOf_fuel hk.chOf _ _ _ (fun k h => by have := hc k h; omega) (fun k h => by have := hc k h; omega)
  have e3 : dat ns i = { n with kids := [] } := by
    unfold dat
    rw [List.getD_eq_getElem?_getD, Int.toNat_natCast, hi]
    rfl
  rw [e1, e2, foOf_drw ns (by omega), e3, nodeD_kids, ← chOf_get hi]
def drawP (t : Tre) : Drw := drwAt t.nodes t.root
theorem drawP_fo (t : Tre) : drawP t = (foT t).drw.getD 0 .zero := rfl
/-- bounds of an arena's drawing -/
structure DrwOk (t : Tre) (d : Drw) (K : Nat) : Prop where
  ok : d.OkT K K K
  jd : d.Jd
theorem foOf_at {t : Tre} (h : RightT t) {i : Nat} {n : Nod} (hi : t.nodes[i]? = some n) :
    ∃ ks, OkL (n.kids.map (drwAt t.nodes)) ks ∧ bsum ks ≤ 4000 * t.nodes.length ∧ ∀ d ∈ n.kids.map (drwAt t.nodes), d.Jd ∧ d.In := by
  have hlt := (List.getElem?_eq_some_iff.1 hi).1
  have hc : ∀ k ∈ n.kids, 0 ≤ k ∧ k < i := h.kok i n hi
  have hfit := foOf_fit h t.nodes.length n.kids (fun k hk => by have := hc k hk; omega) (Nat.le_refl _)
  obtain ⟨ks, h1, h2, h3⟩ := Fo.drw_ok _ hfit
  rw [foOf_drw _ (by omega)] at h1 h3
  refine ⟨ks, h1, ?_, h3⟩
  have hsz : (foOf t.nodes t.nodes.length n.kids).size ≤ t.nodes.length := by
    have h5 := dfs_cons h.kok.chOf (f := t.nodes.length) (k := (i : Int)) (l := []) (by omega) (by omega)
    have h6 := at_len h (node := (i : Int)) (by omega) (by omega)
    rw [h5, dfs_nil, List.append_nil, List.length_cons, ← chOf_get hi] at h6
    rw [size_dfsP, (dfsP_perm _ _ _).length_eq]
    omega
  have := Nat.mul_le_mul_left 4000 hsz
  omega
theorem drw_right {t : Tre} (h : RightT t) {i : Nat} (hi : i < t.nodes.length) : DrwOk t (drwAt t.nodes i) (4000 * t.nodes.length + 4000) := by
  obtain ⟨ks, h1, h2, h3⟩ := foOf_at h (List.getElem?_eq_getElem hi)
  have hf := h.fits i _ (List.getElem?_eq_getElem hi)
  have hl : (t.nodes[i].kids.map (drwAt t.nodes)).length = t.nodes[i].kids.length := by simp
  rw [← hl] at hf
  rw [drwAt_get h.kok (List.getElem?_eq_getElem hi)]
  exact ⟨(nodeD_ok (fitD hf) h1 h2).more (by omega) (by omega) (by omega), nodeD_jd (fitD hf) h3⟩
end Go.Bonsai
/- Rows that are filled one by one; a drawing as one piece; what each kind's function draws. -/
namespace Go.Bonsai
open Go Go.Sl Go.RowKit Go.Fl
/-- the first j of m are told, the others not yet -/
def fillR {α : Type} (f : Nat → α) (z : α) (m j : Nat) : List α := (List.range m).map fun a => if a < j then f a else z
section
variable {α : Type} {f g : Nat → α} {z : α} {m j : Nat}
theorem fillR_len : (fillR f z m j).length = m := by simp [fillR]
theorem fillR_get {a : Nat} (ha : a < m) : (fillR f z m j)[a]? = some (if a < j then f a else z) := by simp [fillR, ha]
theorem fillR_at {a : Nat} (ha : a < m) (hj : a < j) : (fillR f z m j)[a]? = some (f a) := by rw [fillR_get ha, if_pos hj]
theorem fillR_zero : fillR f z m 0 = List.replicate m z := by
  apply List.ext_getElem?
  intro a
  by_cases h : a < m
  · rw [fillR_get h]
    simp [List.getElem?_replicate, h]
  · rw [List.getElem?_eq_none (by rw [fillR_len]; omega), List.getElem?_eq_none (by simp; omega)]
theorem fillR_set {v : α} (hv : g j = v) (hfg : ∀ a, a < j → g a = f a) : (fillR f z m j).set j v = fillR g z m (j + 1) := by
  apply List.ext_getElem?
  intro a
  by_cases h : a < m
  · rw [fillR_get h]
    by_cases e : j = a
    · subst e
      rw [List.getElem?_set_self (by rw [fillR_len]; exact h), if_pos (by omega), hv]
    · rw [List.getElem?_set_ne e, fillR_get h]
      by_cases hl : a < j
      · rw [if_pos hl, if_pos (by omega), hfg a hl]
      · rw [if_neg hl, if_neg (by omega)]
  · rw [List.getElem?_eq_none (by rw [List.length_set, fillR_len]; omega), List.getElem?_eq_none (by rw [fillR_len]; omega)]
theorem fillR_all {l : List α} (hl : l.length = m) (h : ∀ a x, l[a]? = some x → f a = x) : fillR f z m m = l := by
  apply List.ext_getElem?
  intro a
  by_cases hm : a < m
  · have hg : l[a]? = some l[a] := List.getElem?_eq_getElem (by omega)
    rw [fillR_at hm hm, hg, h a _ hg]
  · rw [List.getElem?_eq_none (by rw [fillR_len]; omega), List.getElem?_eq_none (by omega)]
theorem fillR_mem {x : α} (h : x ∈ fillR f z m j) : x = z ∨ ∃ a, a < j ∧ x = f a := by
  obtain ⟨a, ha, rfl⟩ := List.mem_map.1 h
  split
  · exact .inr ⟨a, by assumption, rfl⟩
  · exact .inl rfl
end
theorem hAll_set {α : Type} {R : (Nat → Prop) → World → List Value → α → Prop} {hR : Rd R} {S S' : Nat → Prop} {w : World} {rows : List (List Value)} {xs : List α} {i : Nat} {r : List Value} {x : α} (h : (hAll R hR rows xs).on S w) (h' : R S' w r x) : (hAll R hR (rows.set i r) (xs.set i x)).on (fun b => S b ∨ S' b) w := by
  have h0 : All2 (R S w) rows xs := h
  refine ⟨by rw [List.length_set, List.length_set]; exact h0.1, fun j a b ha hb => ?_⟩
  rw [List.getElem?_set] at ha hb
  by_cases e : i = j
  · subst e
    simp only [if_true] at ha hb
    by_cases hl : i < rows.length
    · rw [if_pos hl] at ha
      rw [if_pos (by rw [← h0.1]; exact hl)] at hb
      cases ha; cases hb
      exact hR.mono (fun _ h => .inr h) h'
    · rw [if_neg hl] at ha
      cases ha
  · rw [if_neg e] at ha hb
    exact hR.mono (fun _ h => .inl h) (h0.2 j a b ha hb)
abbrev PP := (Option Addr × Nat) × (Option Addr × Nat)
/-- a drawing's cells, by its slices -/
def rowD (x : PP) (d : Drw) : List Value := [.int .i64 d.w, .int .i64 d.up, .int .i64 d.dn, .slice x.1.1 d.ss.length x.1.2, .slice x.2.1 d.ls.length x.2.2]
/-- a drawing, read -/
def hDr (x : PP) (d : Drw) : HP := ⟨fun S w => RDr S w (rowD x d) d, fun h hh => RDr.rd.mono h hh, fun h hh => RDr.rd.loc h hh⟩
theorem rowD_one (x : PP) (d : Drw) : oneB (rowD x d) = true := rfl
theorem rowD_rd {S : Nat → Prop} {w : World} {x : PP} {d : Drw} (h : RDr S w (rowD x d) d) : RSl 1 RStr S w (.slice x.1.1 d.ss.length x.1.2) d.ss ∧ RSl 2 RLab S w (.slice x.2.1 d.ls.length x.2.2) d.ls := by
  obtain ⟨sv, lv, e, h1, h2⟩ := h
  simp only [rowD, List.cons.injEq, and_true, true_and] at e
  obtain ⟨e1, e2⟩ := e
  rw [e1, e2]
  exact ⟨h1, h2⟩
theorem RDr.mk {S : Nat → Prop} {w : World} {x : PP} {d : Drw} (h1 : RSl 1 RStr S w (.slice x.1.1 d.ss.length x.1.2) d.ss) (h2 : RSl 2 RLab S w (.slice x.2.1 d.ls.length x.2.2) d.ls) : RDr S w (rowD x d) d := ⟨_, _, rfl, h1, h2⟩
abbrev noX : PP := ((none, 0), (none, 0))
theorem RDr.zero {S : Nat → Prop} {w : World} : RDr S w (rowD noX .zero) .zero := ⟨_, _, rfl, ⟨none, 0, [], rfl, Arr.nil, .nil, Nat.le_refl _⟩, ⟨none, 0, [], rfl, Arr.nil, .nil, Nat.le_refl _⟩⟩
theorem hDr_join {S S' : Nat → Prop} {w : World} {x : PP} {d : Drw} (h : (hStrs (.slice x.1.1 d.ss.length x.1.2) d.ss).on S w) (h' : (hLabs (.slice x.2.1 d.ls.length x.2.2) d.ls).on S' w) : (hDr x d).on (fun b => S b ∨ S' b) w :=
  RDr.mk (RSl.mono RStr.rd (fun _ h => .inl h) h) (RSl.mono RLab.rd (fun _ h => .inr h) h')
end Go.Bonsai
namespace Go.Proofs.YtalnmednhhimhaaDoor
open Go Go.Sl Go.RowKit Go.Bonsai Go.Fl
set_option linter.unusedVariables false
set_option linter.unusedSimpArgs false
theorem RdD.of {w0 w : World} {L : List HP} {x : PP} {d : Drw} (h : St w0 L w) (ha : At L (hDr x d)) : RdD w x.1 x.2 d := rowD_rd (h.at_all ha)
/-- a drawing, and whether there is one -/
abbrev RetDB (w : World) (r : Drw × Bool) : Ending → World → Prop := Ret w (fun x : PP => .tuple #[dVal x.1 x.2 r.1, .bool r.2]) (fun x => [hDr x r.1]) (fun _ => True)
/-- what a kind's function draws -/
structure KindF (n : Nod) (m : Nat) (f : FuncId) : Prop where
  cf : CF Tryd.prog f
  at_ : drawsL[n.kind.toNat]? = some (fnV f)
  run : ∀ (kv : Value) (l : List Drw) (ks : List Nat) (A : Option Addr) (c : Nat) (w : World), l.length = m → OkL l ks → bsum ks ≤ 40000000 → l.length ≤ 1000000 → RSl 5 RDr (Old w) w (.slice A l.length c) l → TabZ w → Calls Tryd.prog f #[.agg (n.cells kv).toArray, .slice A l.length c] w (RetD w (nodeD n l))
theorem getD0 {l : List Drw} {k : Drw} (h : l = [k]) : l[0]? = some k ∧ l.getD 0 .zero = k := by subst h; exact ⟨rfl, rfl⟩
theorem kind_any (n : Nod) (m : Nat) (hn : n.wf) (hf : FitD n m) : ∃ f, KindF n m f := by
  have hk := hf.kind
  have ht := hf.text
  have e : n.kind = 0 ∨ n.kind = 1 ∨ n.kind = 2 ∨ n.kind = 3 ∨ n.kind = 4 ∨ n.kind = 5 ∨ n.kind = 6 ∨ n.kind = 7 ∨ n.kind = 8 ∨ n.kind = 9 := by omega
  rcases e with e | e | e | e | e | e | e | e | e | e
  · refine ⟨32, inferInstance, by rw [e]; rfl, fun kv l ks A c w hm hok hb hl hr hT => ?_⟩
    have : nodeD n l = emptyD := by unfold nodeD; rw [e]; rfl
    rw [this]
    exact rempty_any n kv _ w
  · refine ⟨33, inferInstance, by rw [e]; rfl, fun kv l ks A c w hm hok hb hl hr hT => ?_⟩
    have : nodeD n l = leafD ⟨(classB n.set).toArray⟩ := by unfold nodeD; rw [if_pos e]
    rw [this]
    exact kSet_any n kv _ w hn.set hT
  · refine ⟨36, inferInstance, by rw [e]; rfl, fun kv l ks A c w hm hok hb hl hr hT => ?_⟩
    have : nodeD n l = leafD ⟨(litB n.text).toArray⟩ := by unfold nodeD; rw [if_neg (by omega), if_pos e]
    rw [this]
    exact kText_any n kv _ w (by omega)
  · refine ⟨38, inferInstance, by rw [e]; rfl, fun kv l ks A c w hm hok hb hl hr hT => ?_⟩
    have : nodeD n l = leafD n.text := by unfold nodeD; rw [if_neg (by omega), if_neg (by omega), if_pos e]
    rw [this]
    exact kRule_any n kv _ w (by omega)
  · refine ⟨39, inferInstance, by rw [e]; rfl, fun kv l ks A c w hm hok hb hl hr hT => ?_⟩
    have : nodeD n l = seqD l := by unfold nodeD; rw [if_neg (by omega), if_neg (by omega), if_neg (by omega), if_pos e]
    rw [this]
    exact seq_any n kv l A c 50000000 w hr hl (fun k hk => by obtain ⟨b, h1, h2⟩ := hok.mem hk; exact h1.ok (by omega) (by omega) (by omega)) (fun i hi => (hok.seq i hi).ok (by omega) (by omega) (by omega)) (by omega)
  · refine ⟨40, inferInstance, by rw [e]; rfl, fun kv l ks A c w hm hok hb hl hr hT => ?_⟩
    have : nodeD n l = choD l := by unfold nodeD; rw [if_neg (by omega), if_neg (by omega), if_neg (by omega), if_neg (by omega), if_pos e]
    rw [this]
    exact choice_any n kv l A c 50000000 w hr hl (fun k hk => by obtain ⟨b, h1, h2⟩ := hok.mem hk; exact h1.ok (by omega) (by omega) (by omega)) (by have := hok.widest_le; omega) (fun i hi h0 => (hok.cho i hi h0).ok (by omega) (by omega) (by omega)) (by omega)
  · refine ⟨41, inferInstance, by rw [e]; rfl, fun kv l ks A c w hm hok hb hl hr hT => ?_⟩
    obtain ⟨k, rfl⟩ := one_kid (hm.trans (hf.one (by omega)))
    have : nodeD n [k] = repD n (countB n.min n.max) k := by unfold nodeD; rw [if_neg (by omega), if_neg (by omega), if_neg (by omega), if_neg (by omega), if_neg (by omega), if_pos e]; rfl
    rw [this]
    exact rep_any n kv [k] k A c 50000000 w hr rfl (by obtain ⟨b, h1, h2⟩ := hok.mem (k := k) (by simp); exact h1.ok (by omega) (by omega) (by omega)) (by omega) hf.min hf.max
  · refine ⟨42, inferInstance, by rw [e]; rfl, fun kv l ks A c w hm hok hb hl hr hT => ?_⟩
    obtain ⟨k, rfl⟩ := one_kid (hm.trans (hf.one (by omega)))
    have : nodeD n [k] = framedD ⟨#[38]⟩ k := by unfold nodeD; rw [if_neg (by omega), if_neg (by omega), if_neg (by omega), if_neg (by omega), if_neg (by omega), if_neg (by omega), if_pos e]; rfl
    rw [this]
    exact any_kAnd n kv [k] k A c 50000000 w hr rfl (by obtain ⟨b, h1, h2⟩ := hok.mem (k := k) (by simp); exact h1.ok (by omega) (by omega) (by omega)) (by omega)
  · refine ⟨44, inferInstance, by rw [e]; rfl, fun kv l ks A c w hm hok hb hl hr hT => ?_⟩
    obtain ⟨k, rfl⟩ := one_kid (hm.trans (hf.one (by omega)))
    have : nodeD n [k] = framedD ⟨#[33]⟩ k := by unfold nodeD; rw [if_neg (by omega), if_neg (by omega), if_neg (by omega), if_neg (by omega), if_neg (by omega), if_neg (by omega), if_neg (by omega), if_pos e]; rfl
    rw [this]
    exact any_kNot n kv [k] k A c 50000000 w hr rfl (by obtain ⟨b, h1, h2⟩ := hok.mem (k := k) (by simp); exact h1.ok (by omega) (by omega) (by omega)) (by omega)
  · refine ⟨45, inferInstance, by rw [e]; rfl, fun kv l ks A c w hm hok hb hl hr hT => ?_⟩
    obtain ⟨k, rfl⟩ := one_kid (hm.trans (hf.one (by omega)))
    have : nodeD n [k] = framedD (n.text ++ ⟨#[58]⟩) k := by unfold nodeD; rw [if_neg (by omega), if_neg (by omega), if_neg (by omega), if_neg (by omega), if_neg (by omega), if_neg (by omega), if_neg (by omega), if_neg (by omega), if_pos e]; rfl
    rw [this]
    exact any_kCap n kv [k] k A c 50000000 w (by omega) hr rfl (by obtain ⟨b, h1, h2⟩ := hok.mem (k := k) (by simp); exact h1.ok (by omega) (by omega) (by omega)) (by omega)
end Go.Proofs.YtalnmednhhimhaaDoor
/- rail.Draw, walked. -/
namespace Go.Sl
open Go Go.RowKit
section
variable {P : Program} {n : FD} {s : Sg} {ty : TypeId} {w0 : World} {L : List HP}
theorem Cl.callFR {ι : Sort _} {val : ι → Value} {HL : ι → List HP} {p : ι → Prop} {f : FuncId} {x : Nat} {xs : List Operand} {vs : List Value} {tys : Array TypeId} (hf' : CF P f) (hx : lk s x = some (.func (.func f) #[] #[])) (hxs : evs s xs = some vs)
    (h : ∀ w, St w0 L w → Calls P f vs.toArray w (Ret w val HL p)) :
    Cl P n s (St w0 L) (.call { callee := .value (.tmp x), args := xs.toArray, argTypes := tys }) ty (fun x : { x // p x } => val x.1) (fun x => St w0 (HL x.1 ++ L)) := by
  refine ⟨f, vs.toArray, fun a w o ho _ hf _ => ?_, fun w hm => (h w hm).mono ?_⟩
  · have := op_callF (hf' := hf') (cap := []) hx hxs ho hf (w := w)
    rwa [List.append_nil] at this
  · rintro e w' ⟨x, he, hp, hb, hs⟩
    exact ⟨⟨x, hp⟩, he, hm.pushL hb hs⟩
theorem Ev.arrAddrE {M : World → Prop} {x y : Operand} {t len e sz b o i : Nat} {z : Int} {k : IntKind} [ht : AT P t len e sz] (hx : ev s x = some (.pointer (some ⟨b, o, none⟩))) (hy : ev s y = some (.int k z)) (hz : z = (i : Int)) (hi : i < len) : Ev P n s M (.indexAddr t x y) ty (.pointer (some ⟨b, o + i * sz, none⟩)) :=
  Ev.arrAddr hx (by rw [hy, hz]) hi
theorem Ev.indexAddrE {M : World → Prop} {x y : Operand} {t e sz by_ : Nat} {z0 : Value} {A : Option Addr} {m c i : Nat} {z : Int} {k : IntKind} [ht : SlT P t e sz by_ z0] (hx : ev s x = some (.slice A m c)) (hy : ev s y = some (.int k z)) (hz : z = (i : Int)) (hi : i < m) (hA : ∀ w, M w → A = some (A.getD default)) : Ev P n s M (.indexAddr t x y) ty (.pointer (some ((A.getD default).add (i * sz)))) :=
  Ev.indexAddr hx (by rw [hy, hz]) hi hA
end
end Go.Sl
namespace Go.Bonsai
open Go Go.Sl Go.RowKit
theorem kids_len {t : Tre} (h : RightT t) {i : Nat} {n : Nod} (hi : t.nodes[i]? = some n) : n.kids.length ≤ t.nodes.length := by
  have hlt := (List.getElem?_eq_some_iff.1 hi).1
  have h5 := dfs_cons h.kok.chOf (f := t.nodes.length) (k := (i : Int)) (l := []) (by omega) (by omega)
  have h6 := at_len h (node := (i : Int)) (by omega) (by omega)
  rw [h5, dfs_nil, List.append_nil, List.length_cons, ← chOf_get hi] at h6
  have h7 := dfs_length_ge (ch := chOf t.nodes) t.nodes.length n.kids (by omega)
  omega
/-- what Draw tells -/
def drawB (t : Tre) : Drw × Bool := if mayP t = true then (drawP t, true) else (.zero, false)
theorem mayP_right {t : Tre} (h : mayP t = true) : RightT t ∧ t.nodes.length ≤ 1024 := by
  unfold mayP at h
  simp only [Bool.and_eq_true, decide_eq_true_eq] at h
  exact ⟨rightP_spec h.1.2, by omega⟩
end Go.Bonsai
namespace Go.Proofs.YtalnmednhhimhaaDoor
open Go Go.Sl Go.RowKit Go.Bonsai Go.Fl
set_option linter.unusedVariables false
set_option linter.unusedSimpArgs false
/-- rows of drawings, the first i told -/
abbrev dRows (P : Nat → PP) (ns : List Nod) (i : Nat) : List (List Value) := fillR (fun j => rowD (P j) (drwAt ns j)) (rowD noX .zero) ns.length i
abbrev dDrs (ns : List Nod) (i : Nat) : List Drw := fillR (fun j => drwAt ns j) .zero ns.length i
abbrev kRows (P : Nat → PP) (ns : List Nod) (kids : List Int) (j : Nat) : List (List Value) := fillR (fun a => rowD (P (kids.getD a 0).toNat) (drwAt ns (kids.getD a 0))) (rowD noX .zero) kids.length j
set_option maxHeartbeats 4000000 in
set_option maxRecDepth 20000 in
theorem draw_any (v : Value) (t : Tre) (w : World) (hr : RTree (Old w) w v t) (ht : t.wf) (hT : Tab w) (hZ : TabZ w) : Calls Tryd.prog 8 #[v] w (RetDB w (drawB t)) := by
  have hr0 := hr
  have ht0 := ht
  obtain ⟨ns, root⟩ := t
  obtain ⟨nv, rfl, A, c, rows0, rfl, hA, hrows, hc⟩ := hr
  obtain ⟨hlen, hwn, hroot⟩ := ht
  simp only at hA hrows hlen hwn hroot hc ⊢
  refine TC.calls (l := [.agg #[.slice A ns.length c, .int .i64 root]]) Tryd.func8 rfl Tryd.ntmps8 rfl (St.start w) ?_
  cases hma : mayP ⟨ns, root⟩ with
  | false =>
    have hn : (!mayP ⟨ns, root⟩) = true := by rw [hma]; rfl
    have e : drawB ⟨ns, root⟩ = (.zero, false) := by unfold drawB; rw [if_neg (by rw [hma]; simp)]
    rw [e]
    repeat' (first | ((apply T.callV (f := 9); exact rfl; exact rfl; exact fun w' hw' => may_any _ ⟨ns, root⟩ w' (St.old_tree hw' hr0) ht0 (Tab.st hT hw'))) | (refine W1 ?_) | (refine W2 (fun hc => ?_) (fun hc => ?_)) | (intro _))
    rename_i b1 b2
    refine TX.ret_gen (rs := [.cell 2 30, .tmp 3]) (vs := [dVal (none, 0) (none, 0) .zero, .bool false]) rfl (.cell rfl (blk_res (cs := [.int .i64 0, .int .i64 0, .int .i64 0, .slice none 0 0, .slice none 0 0]) AtA rfl) (.tmp rfl .nil)) (fun w' hw => ?_)
    have h1 := St.push (H := hDr noX .zero) hw Chg.refl RDr.zero
    exact Ret.mk noX trivial (.cons .here .nil) h1
  | true =>
    obtain ⟨hR, hN⟩ := mayP_right hma
    simp only at hN
    have hn : (!mayP ⟨ns, root⟩) = false := by rw [hma]; rfl
    have e : drawB ⟨ns, root⟩ = (drawP ⟨ns, root⟩, true) := by unfold drawB; rw [if_pos hma]
    rw [e]
    obtain ⟨hroot0, hroot1⟩ := hR.root
    simp only at hroot0 hroot1
    obtain ⟨r, rfl⟩ : ∃ r : Nat, root = r := ⟨root.toNat, by omega⟩
    repeat' (first | ((apply T.callV (f := 9); exact rfl; exact rfl; exact fun w' hw' => may_any _ ⟨ns, (r : Int)⟩ w' (St.old_tree hw' hr0) ht0 (Tab.st hT hw'))) | ((apply T.callV (f := 20); exact rfl; exact rfl; exact fun w' hw' => drawings_any w')) | (refine W1 ?_) | (refine W2 (fun hc => ?_) (fun hc => ?_)) | (intro _))
    rename_i b1 b2 b4 BD
    refine TC.loopA (ι := (Nat → PP) × Nat) (fun _ => noX, 0) (fun k r => (23, .int .i64 k.2) :: r)
      (fun k => St w [own 30 5 (some ⟨BD, 0, none⟩) ns.length ns.length (dRows k.1 ns k.2), hAll RDr RDr.rd (dRows k.1 ns k.2) (dDrs ns k.2), blk b4 drawsL 72, blk b2 [.int .i64 0, .int .i64 0, .int .i64 0, .slice none 0 0, .slice none 0 0] 30, blk b1 [.slice A ns.length c, .int .i64 (r : Int)] 24])
      (fun k => k.2 ≤ ns.length) (fun k => ns.length - k.2) KpA SubA (fun w' hw => ?_) (Nat.zero_le _) ?_
    · have g0 : St w (own 30 5 (some ⟨BD, 0, none⟩) ns.length ns.length (List.replicate ns.length (rowD noX .zero)) :: blk b4 drawsL 72 :: blk b2 [.int .i64 0, .int .i64 0, .int .i64 0, .slice none 0 0, .slice none 0 0] 30 :: blk b1 [.slice A ns.length c, .int .i64 (r : Int)] 24 :: []) w' := hw
      have g1 := St.push (H := hAll RDr RDr.rd (List.replicate ns.length (rowD noX .zero)) (List.replicate ns.length .zero)) g0 Chg.refl ⟨by simp, fun i r x hr hx => by
        rw [List.getElem?_replicate] at hr hx
        split at hr
        · rw [if_pos (by assumption)] at hx
          cases hr; cases hx
          exact RDr.zero
        · cases hr⟩
      have e1 : dRows (fun _ => noX) ns 0 = List.replicate ns.length (rowD noX .zero) := fillR_zero
      have e2 : dDrs ns 0 = List.replicate ns.length .zero := fillR_zero
      rw [e1, e2]
      exact St.inc IncQ g1
    rintro ⟨P, i⟩ hi
    simp only at hi ⊢
    by_cases hlt : i < ns.length
    · have hck : decide ((i : Int) < (ns.length : Int)) = true := decide_eq_true (by omega)
      have hgn : ns[i]? = some ns[i] := List.getElem?_eq_getElem hlt
      have hnwf := hwn _ (List.getElem_mem hlt)
      generalize ns[i] = n at *
      obtain ⟨cs, hcs, kv, rfl, K, kc, rfl, hK, hkc⟩ := hrows.get hgn
      have hkl := kids_len hR hgn
      have hkok := hR.kok i n hgn
      obtain ⟨kbs, hkb1, hkb2, hkb3⟩ := foOf_at hR hgn
      have hfit := hR.fits i n hgn
      have hml : (n.kids.map (drwAt ns)).length = n.kids.length := by simp
      simp only at hkl hkb1 hkb2 hkb3
      have hfd : FitD n n.kids.length := fitD hfit
      obtain ⟨f, hkf⟩ := kind_any n n.kids.length hnwf hfd
      have hA' : A = some (A.getD default) := hA.some_ (by omega)
      repeat' (first | ((apply T.ev_; exact rfl; apply Ev.elem (i := i); exact rfl; exact rfl; (exact fun w' hw' => St.old_arr hw' hA); exact hcs; exact rfl)) | (refine W1 ?_) | (refine W2 (fun hc => ?_) (fun hc => ?_)) | (intro _))
      rename_i b7 BK
      have ez : splice [Value.int .u8 0, .int .u64 0, .int .u64 0, .int .u64 0, .int .u64 0, .string ⟨#[]⟩, .int .i64 0, .int .i64 0, .slice none 0 0] 0 (n.cells (.slice K n.kids.length kc)) = n.cells (.slice K n.kids.length kc) := rfl
      refine TC.loopA (ι := Nat) 0 (fun j r => (35, .int .i64 (j : Int)) :: r)
        (fun j => St w [own 30 5 (some ⟨BK, 0, none⟩) n.kids.length n.kids.length (kRows P ns n.kids j), blk b7 (n.cells (.slice K n.kids.length kc)) 55, own 30 5 (some ⟨BD, 0, none⟩) ns.length ns.length (dRows P ns i), hAll RDr RDr.rd (dRows P ns i) (dDrs ns i), blk b4 drawsL 72, blk b2 [.int .i64 0, .int .i64 0, .int .i64 0, .slice none 0 0, .slice none 0 0] 30, blk b1 [.slice A ns.length c, .int .i64 (r : Int)] 24])
        (fun j => j ≤ n.kids.length) (fun j => n.kids.length - j) KpA SubA (fun w' hw => ?_) (Nat.zero_le _) ?_
      · have e1 : kRows P ns n.kids 0 = List.replicate n.kids.length (rowD noX .zero) := fillR_zero
        rw [e1]
        exact hw
      · intro j hj
        by_cases hjl : j < n.kids.length
        · have hck2 : decide ((j : Int) < (n.kids.length : Int)) = true := decide_eq_true (by omega)
          obtain ⟨k, hgk, hki⟩ : ∃ k : Nat, n.kids[j]? = some (k : Int) ∧ k < i := by
            obtain ⟨h1, h2⟩ := hkok _ (List.getElem_mem hjl)
            exact ⟨n.kids[j].toNat, by rw [List.getElem?_eq_getElem hjl]; congr 1; omega, by omega⟩
          have hgd : n.kids.getD j 0 = (k : Int) := by rw [List.getD_eq_getElem?_getD, hgk]; rfl
          have hrk : (dRows P ns i)[k]? = some (rowD (P k) (drwAt ns k)) := fillR_at (by omega) hki
          have hrz : (kRows P ns n.kids j)[j]? = some (rowD noX .zero) := by rw [fillR_get hjl, if_neg (by omega)]
          have hst : (kRows P ns n.kids j).set j (splice (rowD noX .zero) 0 (rowD (P k) (drwAt ns k))) = kRows P ns n.kids (j + 1) :=
            fillR_set (by rw [hgd, Int.toNat_natCast]; rfl) (fun _ _ => rfl)
          repeat' (first | ((apply T.ev_; exact rfl; apply Ev.elem (i := k) (r := rowD (P k) (drwAt ns k)); exact rfl; exact rfl; (exact fun w' hw' => St.own_arr hw' AtA); exact hrk; exact rfl)) | (refine W1 ?_) | (refine W2 (fun hc => ?_) (fun hc => ?_)) | (intro _))
          refine T.storeA (e := 30) (sz := 5) (i := j) (o := 0) (r := rowD noX .zero) (vs := rowD (P k) (drwAt ns k)) (rows := kRows P ns n.kids j) rfl rfl rfl rfl rfl rfl UpdA rfl hrz (by show 0 + 5 ≤ 5; decide) ?_
          rw [hst]
          repeat' (first | (refine W1 ?_) | (refine W2 (fun hc => ?_) (fun hc => ?_)) | (intro _))
          exact TX.round (j + 1) hjl (show n.kids.length - (j + 1) < n.kids.length - j by omega) SubA (fun w' hw => hw)
        have hck2 : decide ((j : Int) < (n.kids.length : Int)) = false := decide_eq_false (by omega)
        obtain rfl : j = n.kids.length := by omega
        have hsl : ∀ w', St w [own 30 5 (some ⟨BK, 0, none⟩) n.kids.length n.kids.length (kRows P ns n.kids n.kids.length), blk b7 (n.cells (.slice K n.kids.length kc)) 55, own 30 5 (some ⟨BD, 0, none⟩) ns.length ns.length (dRows P ns i), hAll RDr RDr.rd (dRows P ns i) (dDrs ns i), blk b4 drawsL 72, blk b2 [.int .i64 0, .int .i64 0, .int .i64 0, .slice none 0 0, .slice none 0 0] 30, blk b1 [.slice A ns.length c, .int .i64 (r : Int)] 24] w' → RSl 5 RDr (Old w') w' (.slice (some ⟨BK, 0, none⟩) (n.kids.map (drwAt ns)).length n.kids.length) (n.kids.map (drwAt ns)) := fun w' hw' => by
          have hal : All2 (RDr (Old w') w') (dRows P ns i) (dDrs ns i) := hw'.at_all (H := hAll RDr RDr.rd (dRows P ns i) (dDrs ns i)) AtA
          rw [hml]
          refine ⟨_, _, kRows P ns n.kids n.kids.length, by rw [hml], by rw [hml]; exact St.own_arr hw' AtA, ⟨by rw [hml]; exact fillR_len, fun a ro d ha hd => ?_⟩, by rw [hml]; exact Nat.le_refl _⟩
          have hal' : a < n.kids.length := by
            have := (List.getElem?_eq_some_iff.1 ha).1
            rwa [fillR_len] at this
          obtain ⟨k, hgk, hki⟩ : ∃ k : Nat, n.kids[a]? = some (k : Int) ∧ k < i := by
            obtain ⟨h1, h2⟩ := hkok _ (List.getElem_mem hal')
            exact ⟨n.kids[a].toNat, by rw [List.getElem?_eq_getElem hal']; congr 1; omega, by omega⟩
          have hgd : n.kids.getD a 0 = (k : Int) := by rw [List.getD_eq_getElem?_getD, hgk]; rfl
          rw [fillR_at hal' hal', hgd, Int.toNat_natCast] at ha
          rw [List.getElem?_map, hgk] at hd
          cases ha; cases hd
          exact hal.2 k _ _ (fillR_at (by omega) hki) (fillR_at (by omega) hki)
        have hcall : ∀ w', St w [own 30 5 (some ⟨BK, 0, none⟩) n.kids.length n.kids.length (kRows P ns n.kids n.kids.length), blk b7 (n.cells (.slice K n.kids.length kc)) 55, own 30 5 (some ⟨BD, 0, none⟩) ns.length ns.length (dRows P ns i), hAll RDr RDr.rd (dRows P ns i) (dDrs ns i), blk b4 drawsL 72, blk b2 [.int .i64 0, .int .i64 0, .int .i64 0, .slice none 0 0, .slice none 0 0] 30, blk b1 [.slice A ns.length c, .int .i64 (r : Int)] 24] w' → Calls Tryd.prog f #[.agg (n.cells (.slice K n.kids.length kc)).toArray, .slice (some ⟨BK, 0, none⟩) n.kids.length n.kids.length] w' (RetD w' (drwAt ns i)) := fun w' hw' => by
          have h := hkf.run (.slice K n.kids.length kc) (n.kids.map (drwAt ns)) kbs (some ⟨BK, 0, none⟩) n.kids.length w' hml hkb1 (by omega) (by omega) (hsl w' hw') (TabZ.st hZ hw')
          rw [hml, ← drwAt_get hR.kok hgn] at h
          exact h
        have hkd : drawsL[0 + n.kind.toNat * 1]? = some (fnV f) := by rw [Nat.mul_one, Nat.zero_add]; exact hkf.at_
        have hk1 := hfd.kind
        have hk2 : n.kind = (n.kind.toNat : Int) := by omega
        have hk3 : n.kind.toNat < 10 := by omega
        have hcf := hkf.cf
        clear hkf hsl
        repeat' (first | ((refine TC.lexT [] (.seg [0, 1, 2, 3, 4, 5, 6, 7, 8, 9, 10] .fin) mixed (by kernel_rfl) (TT.seg rfl ?_))) | ((apply TL.pure_ (d := 52); exact rfl; exact rfl; apply Ev.arrAddrE (i := n.kind.toNat); exact rfl; exact rfl; exact hk2; exact hk3)) | ((apply TL.quiet (d := 53); exact rfl; exact rfl; exact DropA; apply Ev.load1b; exact rfl; exact AtA; exact hkd)) | (refine W1 ?_) | (refine W2 (fun hc => ?_) (fun hc => ?_)) | (intro _))
        refine TL.kcall rfl rfl DropA (Cl.callFR (f := f) (vs := [.agg (n.cells (.slice K n.kids.length kc)).toArray, .slice (some ⟨BK, 0, none⟩) n.kids.length n.kids.length]) hcf rfl rfl hcall) (fun _ w hw => St.dropL hw) (fun x => ?_)
        obtain ⟨x, _⟩ := x
        dsimp only
        have hrz : (dRows P ns i)[i]? = some (rowD noX .zero) := by rw [fillR_get hlt, if_neg (by omega)]
        repeat' (first | (refine W1 ?_) | (refine W2 (fun hc => ?_) (fun hc => ?_)) | (intro _))
        refine TL.loudN rfl (Ac.storeA (e := 30) (sz := 5) (i := i) (o := 0) (r := rowD noX .zero) (vs := rowD x (drwAt ns i)) (rows := dRows P ns i) rfl rfl rfl rfl rfl rfl UpdA rfl hrz (by show 0 + 5 ≤ 5; decide)) (fun _ => ?_)
        repeat' (first | ((apply TX.tree)) | ((apply TT.fin)) | (refine W1 ?_) | (refine W2 (fun hc => ?_) (fun hc => ?_)) | (intro _))
        obtain ⟨P', hP'⟩ : ∃ P' : Nat → PP, P' = fun j => if j = i then x else P j := ⟨_, rfl⟩
        have hPi : P' i = x := by rw [hP']; simp
        have hPj : ∀ a, a < i → P' a = P a := fun a ha => by rw [hP']; simp only; rw [if_neg (by omega)]
        have hst : (dRows P ns i).set i (rowD x (drwAt ns i)) = dRows P' ns (i + 1) := fillR_set (by rw [hPi]) (fun a ha => by rw [hPj a ha])
        have hsd : (dDrs ns i).set i (drwAt ns i) = dDrs ns (i + 1) := fillR_set rfl (fun _ _ => rfl)
        refine TX.round (P', i + 1) hlt (show ns.length - (i + 1) < ns.length - i by omega) SubA (fun w' hw => ?_)
        have g1 : St w (hStrs (.slice x.1.1 (drwAt ns i).ss.length x.1.2) (drwAt ns i).ss :: hLabs (.slice x.2.1 (drwAt ns i).ls.length x.2.2) (drwAt ns i).ls :: own 30 5 (some ⟨BK, 0, none⟩) n.kids.length n.kids.length (kRows P ns n.kids n.kids.length) :: blk b7 (n.cells (.slice K n.kids.length kc)) 55 :: own 30 5 (some ⟨BD, 0, none⟩) ns.length ns.length ((dRows P ns i).set i (rowD x (drwAt ns i))) :: hAll RDr RDr.rd (dRows P ns i) (dDrs ns i) :: blk b4 drawsL 72 :: blk b2 [.int .i64 0, .int .i64 0, .int .i64 0, .slice none 0 0, .slice none 0 0] 30 :: blk b1 [.slice A ns.length c, .int .i64 (r : Int)] 24 :: []) w' := hw
        have g2 := St.join (K := hDr x (drwAt ns i)) (fun S S' w h h' => hDr_join h h') g1
        have g3 := St.del (H := hAll RDr RDr.rd (dRows P ns i) (dDrs ns i)) DelA g2
        have g4 : St w (hAll RDr RDr.rd (dRows P ns i) (dDrs ns i) :: hDr x (drwAt ns i) :: _) w' := g3
        have g5 := St.join (K := hAll RDr RDr.rd ((dRows P ns i).set i (rowD x (drwAt ns i))) ((dDrs ns i).set i (drwAt ns i))) (fun S S' w h h' => hAll_set h h') g4
        rw [hst, hsd] at g5
        exact St.inc IncQ g5
    have hck : decide ((i : Int) < (ns.length : Int)) = false := decide_eq_false (by omega)
    obtain rfl : i = ns.length := by omega
    have hrk : (dRows P ns ns.length)[r]? = some (rowD (P r) (drwAt ns r)) := fillR_at (by omega) (by omega)
    have hdk : (dDrs ns ns.length)[r]? = some (drwAt ns r) := fillR_at (by omega) (by omega)
    have hA' : A = some (A.getD default) := hA.some_ (by omega)
    repeat' (first | ((apply T.ev_; exact rfl; apply Ev.elem (i := r) (r := rowD (P r) (drwAt ns r)); exact rfl; exact rfl; (exact fun w' hw' => St.own_arr hw' AtA); exact hrk; exact rfl)) | (refine W1 ?_) | (refine W2 (fun hc => ?_) (fun hc => ?_)) | (intro _))
    refine TX.ret_gen (rs := [.cell 2 30, .tmp 3]) (vs := [dVal (P r).1 (P r).2 (drwAt ns r), .bool true]) rfl (.cell rfl (blk_res (cs := rowD (P r) (drwAt ns r)) AtA rfl) (.tmp rfl .nil)) (fun w' hw => ?_)
    have g1 := St.del (H := hAll RDr RDr.rd (dRows P ns ns.length) (dDrs ns ns.length)) DelA hw
    have g2 := St.weak (H := hAll RDr RDr.rd (dRows P ns ns.length) (dDrs ns ns.length)) (H' := hDr (P r) (drwAt ns r)) (fun S w h => h.2 r _ _ hrk hdk) g1
    exact Ret.mk (P r) trivial (.cons .here .nil) g2
end Go.Proofs.YtalnmednhhimhaaDoor
