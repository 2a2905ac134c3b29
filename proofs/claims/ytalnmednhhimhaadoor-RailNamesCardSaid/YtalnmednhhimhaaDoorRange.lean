/-
  Loops over a function: rounds, the iterator's calls of yield, the marks at the end.
-/
import Derived.Test.YtalnmednhhimhaaDoorAuto
import Derived.RangeFuncLeaves
import Derived.RangeFuncSeq
import Derived.RangeFuncRecord
import Derived.TacticsIn
set_option linter.all false
namespace Go.Sl
open Go.RowKit
set_option linter.unusedVariables false

/-- a whole block that is no cells -/
def obj (b : Nat) (o : Obj) : HP where
  on S w := S b ∧ w.heap[b]? = some o
  mono h hh := ⟨h _ hh.1, hh.2⟩
  loc h hh := ⟨hh.1, (h _ hh.1).trans hh.2⟩
def markC (d : Deferred) (H : HP) : HP where
  on S w := ∃ D, d = { target := .collected D, args := #[] } ∧ S D ∧ w.heap[D]? = some (.deferred (some [])) ∧ H.on (fun b => S b ∧ b ≠ D) w
  mono := fun h ⟨D, h1, h2, h3, h4⟩ => ⟨D, h1, h _ h2, h3, H.mono (fun _ hb => ⟨h _ hb.1, hb.2⟩) h4⟩
  loc := fun h ⟨D, h1, h2, h3, h4⟩ => ⟨D, h1, h2, (h _ h2).trans h3, H.loc (fun _ hb => h _ hb.1) h4⟩
/-- marks, each with no calls -/
def marks : List Deferred → HP
  | [] => ⟨fun _ _ => True, fun _ _ => trivial, fun _ _ => trivial⟩
  | d :: ds => markC d (marks ds)
theorem marks_cons {D : Nat} {ds : List Deferred} {S S' : Nat → Prop} {w : World} (h : (obj D (.deferred (some []))).on S w) (h' : (marks ds).on S' w) (hd : ∀ b, S b → ¬ S' b) :
    (marks ({ target := .collected D, args := #[] } :: ds)).on (fun b => S b ∨ S' b) w :=
  ⟨D, rfl, .inl h.1, h.2, (marks ds).mono (fun b hb => ⟨.inr hb, fun e => hd D h.1 (e ▸ hb)⟩) h'⟩
theorem St.joinD {w0 w : World} {H H' K : HP} {L : List HP} (hi : ∀ S S' w, H.on S w → H'.on S' w → (∀ b, S b → ¬ S' b) → K.on (fun b => S b ∨ S' b) w) (h : St w0 (H :: H' :: L) w) : St w0 (K :: L) w := by
  obtain ⟨hb, S1, h1, h2, S2, h3, h4, h5⟩ := h
  refine ⟨hb, fun b => S1 b ∨ S2 b, fun b hb => ?_, hi _ _ _ h2 h4 (fun b hx hy => (h3 b hy).2 hx), h5.keep (fun b hb => ⟨hb.1.1, fun h => ?_⟩) (fun _ _ => rfl)⟩
  · rcases hb with hb | hb
    · exact h1 b hb
    · exact (h3 b hb).1
  · rcases h with h | h
    · exact hb.1.2 h
    · exact hb.2 h
theorem chg_putObj {w : World} {g : Nat} {o : Obj} {S1 : Nat → Prop} (hg : S1 g) : Chg w (w.putObj g o) S1 :=
  ⟨rfl, rfl, rfl, by simp, fun b _ hn => World.putObj_heap_other (fun e => hn (by subst e; exact hg))⟩
theorem St.putObj {w0 w : World} {b : Nat} {o o' : Obj} {L L' : List HP} (hu : Upd L (obj b o) (obj b o') L') (h : St w0 L w) : St w0 L' (w.putObj b o') := by
  obtain ⟨S1, h1, h2, h3⟩ := h.upd hu
  refine h3 S1 _ (chg_putObj h2.1) (fun b hb => .inl hb) ⟨h2.1, World.putObj_heap_same (h1 _ h2.1).2⟩
theorem St.newObj {w0 w : World} {L : List HP} (h : St w0 L w) (o : Obj) : St w0 (obj w.heap.size o :: L) (w.alloc o) :=
  h.push (Chg.alloc _) ⟨⟨Nat.le_refl _, by simp⟩, World.alloc_heap_new w o⟩
theorem St.obj_heap {w0 w : World} {L : List HP} {b : Nat} {o : Obj} (h : St w0 L w) (ha : At L (obj b o)) : w.heap[b]? = some o := (h.at_all ha).2

/-- pieces as one; a piece of some kind -/
def hSep (K : List HP) : HP := ⟨fun S w => Sep K S w, fun h hh => hh.keep h (fun _ _ => rfl), fun h hh => hh.keep (fun _ hb => hb) h⟩
def hEx {ι : Type _} (f : ι → HP) : HP := ⟨fun S w => ∃ x, (f x).on S w, fun h ⟨x, hx⟩ => ⟨x, (f x).mono h hx⟩, fun h ⟨x, hx⟩ => ⟨x, (f x).loc h hx⟩⟩
theorem Sep.cut : ∀ {K L : List HP} {S : Nat → Prop} {w : World}, Sep (K ++ L) S w → ∃ S1 : Nat → Prop, (∀ b, S1 b → S b) ∧ Sep K S1 w ∧ Sep L (fun b => S b ∧ ¬ S1 b) w
  | [], L, S, w, h => ⟨fun _ => False, fun _ h => h.elim, trivial, h.keep (fun _ hb => ⟨hb, fun h => h⟩) (fun _ _ => rfl)⟩
  | H :: K, L, S, w, ⟨S1, h1, h2, h3⟩ => by
    obtain ⟨S2, g1, g2, g3⟩ := Sep.cut h3
    refine ⟨fun b => S1 b ∨ S2 b, fun b hb => hb.elim (h1 b) (fun h => (g1 b h).1), ⟨S1, fun b hb => .inl hb, h2, g2.keep (fun b hb => ⟨.inr hb, (g1 b hb).2⟩) (fun _ _ => rfl)⟩, g3.keep (fun b hb => ⟨hb.1.1, fun h => ?_⟩) (fun _ _ => rfl)⟩
    rcases h with h | h
    · exact hb.1.2 h
    · exact hb.2 h
theorem St.shutSep {w0 w : World} {K L : List HP} (h : St w0 (K ++ L) w) : St w0 (hSep K :: L) w := by
  obtain ⟨hb, hs⟩ := h
  obtain ⟨S1, h1, h2, h3⟩ := hs.cut
  exact ⟨hb, S1, h1, h2, h3⟩
theorem St.openSep {w0 w : World} {K L : List HP} (h : St w0 (hSep K :: L) w) : St w0 (K ++ L) w := by
  obtain ⟨hb, S1, h1, h2, h3⟩ := h
  exact ⟨hb, Sep.append h2 h3 h1 (fun _ hx => hx.1) (fun b hx hy => hy.2 hx)⟩
theorem St.shutEx {ι : Type _} {f : ι → HP} {w0 w : World} {L : List HP} (x : ι) (h : St w0 (f x :: L) w) : St w0 (hEx f :: L) w := by
  obtain ⟨hb, S1, h1, h2, h3⟩ := h
  exact ⟨hb, S1, h1, ⟨x, h2⟩, h3⟩
theorem St.openEx {ι : Type _} {f : ι → HP} {w0 w : World} {L : List HP} (h : St w0 (hEx f :: L) w) : ∃ x, St w0 (f x :: L) w := by
  obtain ⟨hb, S1, h1, ⟨x, h2⟩, h3⟩ := h
  exact ⟨x, hb, S1, h1, h2, h3⟩

/-! ### The walk within a round, and at a call of yield -/
/-- a fence that lets every function in -/
class FW (F : Fence) : Prop where
  fn : ∀ f, F.fn f
  depth : F.depth = none
instance : FW Fence.wide := ⟨fun _ => trivial, rfl⟩
instance {l : Nat} : FW (Fence.wide.inRound l) := ⟨fun _ => trivial, rfl⟩
structure TF (F : Fence) (m : Nat) (P : Program) (ops : Array Oper) (Q : Exit → Act → World → Prop) (rest : List Oper) (n : FD) (s : Sg) (M : World → Prop) : Prop where
  go : ∀ a w, Fr n s a → M w → wpListIn F m P ops Q rest a w
structure TCF (F : Fence) (m : Nat) (P : Program) (c : Code) (Q : Exit → Act → World → Prop) (n : FD) (s : Sg) (M : World → Prop) : Prop where
  go : ∀ a w, Fr n s a → M w → c.wpIn F m P Q a w
section
variable {F : Fence} [FW F] {m : Nat} {P : Program} {ops : Array Oper} {Q : Exit → Act → World → Prop} {rest : List Oper} {n : FD} {s : Sg} {M : World → Prop}
  {op : Op} {ty : TypeId} {pos : String} {af : Array Edge} {d : Nat} {v : Value}
theorem not_defer {ρ : Operand → Value} {o : Oper} {w w' : World} {x : Next} (hr : (execOp ρ o).run P w = .ok x w') (hx : ∀ d, x ≠ .defer d) : ∀ c, o.op ≠ .defer c := by
  intro c e
  cases h : (resolve ρ c o.type).run P w <;> simp [execOp, e, h] at hr
  exact hx _ hr.1.symm
theorem semAt_of (F : Fence) {a : Act} {o : Oper} {w w' : World} {x : Next} (hr : (execOp a.eval o).run P w = .ok x w') (hx : ∀ d, x ≠ .defer d) : (Oper.semAt F.round a.eval o).run P w = .ok x w' := by
  rw [Oper.semAt_eq _ _ _ (not_defer hr hx)]
  exact hr
theorem TF.nil (k : TX Q .normal n s M) : TF F m P ops Q [] n s M := ⟨fun a w hf hm => wpListIn_nil (k.go a w hf hm)⟩
theorem TF.ev_ (hd : Nat.blt d n.sz = true) (h : Ev P n s M op ty v) (k : TF F m P ops Q rest n ((d, v) :: s) M) :
    TF F m P ops Q (⟨some d, op, ty, pos, af, none⟩ :: rest) n s M := by
  refine ⟨fun a w hf hm => ?_⟩
  refine wpListIn_plain rfl fun K hK => ⟨fun f _ => FW.fn f, ?_⟩
  rw [semAt_of F (h.go a w ⟨some d, op, ty, pos, af, none⟩ rfl rfl hf hm) nofun]
  exact hK _ _ (k.go _ _ (hf.put hd v) hm)
theorem TF.act {ι : Sort _} {val : ι → Value} {M' : ι → World → Prop} (hd : Nat.blt d n.sz = true) (h : Ac P n s M op ty val M')
    (k : ∀ x, TF F m P ops Q rest n ((d, val x) :: s) (M' x)) : TF F m P ops Q (⟨some d, op, ty, pos, af, none⟩ :: rest) n s M := by
  refine ⟨fun a w hf hm => ?_⟩
  obtain ⟨x, w', hr, hm'⟩ := h.go a w ⟨some d, op, ty, pos, af, none⟩ rfl rfl hf hm
  refine wpListIn_plain rfl fun K hK => ⟨fun f _ => FW.fn f, ?_⟩
  rw [semAt_of F hr nofun]
  exact hK _ _ ((k x).go _ _ (hf.put hd _) hm')
theorem TF.actN {ι : Sort _} {M' : ι → World → Prop} (h : AcN P n s M op ty M')
    (k : ∀ x, TF F m P ops Q rest n s (M' x)) : TF F m P ops Q (⟨none, op, ty, pos, af, none⟩ :: rest) n s M := by
  refine ⟨fun a w hf hm => ?_⟩
  obtain ⟨x, w', hr, hm'⟩ := h.go a w ⟨none, op, ty, pos, af, none⟩ rfl rfl hf hm
  refine wpListIn_plain rfl fun K hK => ⟨fun f _ => FW.fn f, ?_⟩
  rcases hr with hr | ⟨u, hr⟩ <;> rw [semAt_of F hr nofun] <;> exact hK _ _ ((k x).go _ _ hf hm')
theorem TF.yield {x : Operand} {l : Nat} {xs : List Operand} {vs : List Value} {tys : Array TypeId} {R : World → Prop} (hd : Nat.blt d n.sz = true) (hx : ev s x = some (.func (.yield l) #[] #[])) (hxs : evs s xs = some vs)
    (h : ∀ w, M w → YieldAt F (m - 1) P l vs.toArray w (fun e w' => e = .returned (.bool true) ∧ R w')) (k : TF F m P ops Q rest n ((d, .bool true) :: s) R) :
    TF F m P ops Q (⟨some d, .call { callee := .value x, args := xs.toArray, argTypes := tys }, ty, pos, af, none⟩ :: rest) n s M := by
  refine ⟨fun a w hf hm => ?_⟩
  obtain ⟨fn, tmps, assign, body, hy, hR⟩ := h w hm
  have h1 := evs_eq hf hxs
  refine wpListIn_plain rfl fun K hK => ⟨fun f _ => FW.fn f, ?_⟩
  have hr : (execOp a.eval ⟨some d, .call { callee := .value x, args := xs.toArray, argTypes := tys }, ty, pos, af, none⟩).run P w = .ok (.round l fn tmps assign body) w := by
    simp [execOp, resolve, Deferred.ofValue, hf.ev hx, invoke, h1, hy]
  rw [semAt_of F hr nofun]
  refine ⟨fun hs => by rw [FW.depth] at hs; simp at hs, hR.mono ?_⟩
  rintro e w' ⟨rfl, hw'⟩
  exact hK _ _ (k.go _ _ (hf.put hd _) hw')
theorem TCF.region {id : Nat} {l : List Oper} (k : TF F m P l.toArray Q l n s M) : TCF F m P (.region id l.toArray false) Q n s M := ⟨fun a w hf hm => wpIn_region_lit (k.go a w hf hm)⟩
theorem TC.regionF {id : Nat} {l : List Oper} (k : TF Fence.wide 9 P l.toArray Q l n s M) : TC P (.region id l.toArray false) Q n s M := ⟨fun a w hf hm => wpIn_wide.1 (wpIn_region_lit (k.go a w hf hm))⟩
theorem TCF.block {id : Nat} {c : Code} (k : TCF F m P c (Exit.inBlock id Q) n s M) : TCF F m P (.block id c) Q n s M := ⟨fun a w hf hm => wpIn_block (k.go a w hf hm)⟩
theorem TF.sub {M' : World → Prop} (h : ∀ w, M w → M' w) (k : TF F m P ops Q rest n s M') : TF F m P ops Q rest n s M := ⟨fun a w hf hm => k.go a w hf (h w hm)⟩

theorem TF.ex {ι : Sort _} {M' : ι → World → Prop} (hM : ∀ w, M w → ∃ x, M' x w) (k : ∀ x, TF F m P ops Q rest n s (M' x)) : TF F m P ops Q rest n s M :=
  ⟨fun a w hf hm => let ⟨x, hx⟩ := hM w hm; (k x).go a w hf hx⟩

theorem TF.append {w0 : World} {L L0 : List HP} {x y : Operand} {t e sz by_ q c q' c' : Nat} {z : Value} {A A' : Option Addr} {rows news : List (List Value)} (hd : Nat.blt d n.sz = true) [ht : SlT P t e sz by_ z] (hx : ev s x = some (.slice A q c)) (hy : ev s y = some (.slice A' q' c'))
    (hdl : Del L (own e sz A q c rows) L0) (hn : ∀ w, St w0 L w → Arr sz (fun b => b < w.heap.size) w A' q' news) (h1 : ∀ w, St w0 L w → ∀ r ∈ news, oneB r = true) (h63 : q + q' ≤ maxLen) (hb : (q + q') * by_ ≤ 140737488355328)
    (k : ∀ A2 c2, TF F m P ops Q rest n ((d, .slice A2 (q + q') c2) :: s) (St w0 (own e sz A2 (q + q') c2 (rows ++ news) :: L0))) :
    TF F m P ops Q (⟨some d, .call { callee := .builtin .append, args := #[x, y], argTypes := #[t, t] }, ty, pos, af, none⟩ :: rest) n s (St w0 L) :=
  TF.act hd (Ac.append hx hy hdl hn h1 h63 hb) (fun p => k p.1 p.2)

theorem TF.lit1 {w0 : World} {L : List HP} {t e sz by_ : Nat} {z u : Value} {x : Operand} (hd : Nat.blt d n.sz = true) [ht : SlT P t e sz by_ z] (hx : ev s x = some u) {r : List Value} (hr : u.cells.toList = r) (hz : r.length = sz) (hb : Nat.ble sz 16777216 = true)
    (k : ∀ b, TF F m P ops Q rest n ((d, .slice (some ⟨b, 0, none⟩) 1 1) :: s) (St w0 (own e sz (some ⟨b, 0, none⟩) 1 1 [r] :: L))) : TF F m P ops Q (⟨some d, .buildSlice t 1 #[(0, x)], ty, pos, af, none⟩ :: rest) n s (St w0 L) :=
  TF.act hd (Ac.lit1 hx hr hz hb) k
theorem TF.store {w0 : World} {L L' : List HP} {x y : Operand} {t t' b o k0 : Nat} {cs vs : List Value} [hs : SZ P t k0] (hx : ev s x = some (.pointer (some ⟨b, o, none⟩))) (hy : ev s y = some v) (hv : v.cells = vs.toArray) (hk0 : vs.length = k0) (h1 : oneB vs = true)
    (hu : Upd L (blk b cs t') (blk b (splice cs o vs) t') L') (hi : Nat.ble (o + vs.length) cs.length = true)
    (k : TF F m P ops Q rest n s (St w0 L')) : TF F m P ops Q (⟨none, .store t x y, ty, pos, af, none⟩ :: rest) n s (St w0 L) :=
  TF.actN (Ac.store hx hy hv hk0 h1 hu hi) (fun _ => k)

/-! ### The statement -/
theorem Fr.zip2 {N : Nat} {ds : List Deferred} {s : Sg} {a : Act} {p1 p2 : Nat} {v1 v2 : Value} (hf : Fr ⟨N, ds⟩ s a) (h1 : Nat.blt p1 N = true) (h2 : Nat.blt p2 N = true) :
    Fr ⟨N, []⟩ ((p2, v2) :: (p1, v1) :: s) { tmps := ((#[p1, p2] : Array Tmp).zip #[v1, v2]).foldl (fun t (p, v) => t.setIfInBounds p v) a.tmps, defers := [] } := by
  have hf0 : Fr ⟨N, []⟩ s { a with defers := [] } := ⟨hf.size, rfl, hf.get⟩
  have h3 := (hf0.put (d := p1) h1 v1).put (d := p2) h2 v2
  have e : ((#[p1, p2] : Array Tmp).zip #[v1, v2]) = #[(p1, v1), (p2, v2)] := by simp [Array.zip, Array.zipWith, Array.zipWithMAux]
  rw [e]
  exact h3

/-- `for _, k := range f { .. }`, f a function value of two parameters that hands on xs one by one, and nothing but it -/
theorem TC.range2 {N : Nat} {ds : List Deferred} {g : Operand} {gf : Nat} {lb : Array Value} {p1 p2 : Nat} {assign body : Code} {w0 : World} {L : List HP} {e1 e2 : Nat → Value} {K : Nat} [hgf : CF P gf]
    (hg : ev s g = some (.func (.func gf) #[] lb)) (h1 : Nat.blt p1 N = true) (h2 : Nat.blt p2 N = true) (LB : Nat → List HP) (h0 : ∀ w, St w0 L w → St w0 (LB 0) w)
    (hiter : ∀ (l : Nat) (rec : Obj) (D : Nat) (W : World), (∀ k, k < K → ∀ W, St w0 (obj l rec :: obj D (.deferred (some [])) :: LB k) W → YieldAt Fence.wide 8 P l #[e1 k, e2 k] W (fun e W' => e = .returned (.bool true) ∧ St w0 (obj l rec :: obj D (.deferred (some [])) :: LB (k + 1)) W')) →
      St w0 (obj l rec :: obj D (.deferred (some [])) :: LB 0) W → Calls P gf (#[.func (.yield l) #[] #[]] ++ lb) W (fun e W' => ∃ v, e = .returned v ∧ St w0 (obj l rec :: obj D (.deferred (some [])) :: LB K) W'))
    (hround : ∀ k, k < K → ∀ (l D : Nat) (r1 r2 : Obj) (R : Act → World → Prop), (∀ s1, (TCF (Fence.wide.inRound l) 8 P body (fun e _ w => e = .normal ∧ St w0 (obj l r2 :: obj D (.deferred (some [])) :: LB (k + 1)) w) ⟨N, []⟩ s1 (St w0 (obj l r2 :: obj D (.deferred (some [])) :: LB k))) → ∀ a w, Fr ⟨N, []⟩ s1 a → St w0 (obj l r1 :: obj D (.deferred (some [])) :: LB k) w → R a w) →
      TCF (Fence.wide.inRound l) 8 P assign (Exit.then R (fun _ _ _ => False)) ⟨N, []⟩ ((p2, e2 k) :: (p1, e1 k) :: s) (St w0 (obj l r1 :: obj D (.deferred (some [])) :: LB k)))
    (k : ∀ D, TX Q .normal ⟨N, { target := .collected D, args := #[] } :: ds⟩ s (St w0 (obj D (.deferred (some [])) :: LB K))) :
    TC P (.rangeFunc g #[p1, p2] assign body) Q ⟨N, ds⟩ s (St w0 L) := by
  refine ⟨fun a w hf hm => (wpIn_wide (n := 9)).1 ?_⟩
  refine wpIn_rangeFunc ?_
  intro fn hfn
  obtain ⟨rec, hrec⟩ : ∃ rec : LoopState → Option Code → Loop, rec = fun st pe => { state := st, pending := pe, fn, tmps := a.tmps, params := #[p1, p2], assign, body, defers := w.heap.size } := ⟨_, rfl⟩
  obtain ⟨W1, hW1⟩ : ∃ W1, (w.alloc (.deferred (some []))).alloc (.loop (rec .ready none)) = W1 := ⟨_, rfl⟩
  have hs1 : St w0 (obj (w.heap.size + 1) (.loop (rec .ready none)) :: obj w.heap.size (.deferred (some [])) :: LB 0) W1 := by
    have h := ((h0 w hm).newObj (.deferred (some []))).newObj (.loop (rec .ready none))
    rw [World.size_alloc, hW1] at h
    exact h
  refine ⟨w.heap.size + 1, [{ target := .collected w.heap.size, args := #[] }], W1, { target := .fn (.func gf) lb, args := #[.func (.yield (w.heap.size + 1)) #[] #[]] }, W1, gf,
    #[.func (.yield (w.heap.size + 1)) #[] #[]] ++ lb, W1, ?_, ?_, fun _ _ => trivial, ?_, fun _ => by omega, ?_⟩
  · rw [← hW1, hrec]; exact run_enterLoop_outer _ _ _ _ _
  · have := hf.ev hg
    simp only [resolve, rangeCall]
    rw [this]
    simp [Deferred.ofValue, Act.eval]
  · simp [invoke, hgf.run]
  · refine callsIn_wide.2 ((hiter (w.heap.size + 1) (.loop (rec .ready none)) w.heap.size W1 ?_ hs1).mono ?_)
    · intro k hk W hW
      have hl := hW.obj_heap At.here
      have hlt : w.heap.size + 1 < W.heap.size := (Array.getElem?_eq_some_iff.1 hl).1
      have hy := run_yield (P := P) (args := #[e1 k, e2 k]) hl (by rw [hrec]; rfl)
      rw [hrec] at hy
      refine ⟨fn, _, assign, body, hy, roundIn_of_wpIn hfn ?_⟩
      refine (hround k hk (w.heap.size + 1) w.heap.size (.loop (rec .ready none)) (.loop { rec .ready none with state := .busy }) _ ?_).go _ W (hf.zip2 h1 h2) hW
      intro s1 hb a1 W2 hf1 hW2
      have hl2 := hW2.obj_heap At.here
      refine ⟨_, run_beginRound hl2 (by rw [hrec]), ?_⟩
      refine wpIn_mono (hb.go a1 _ hf1 (hW2.putObj .here)) ?_
      rintro e a3 W3 ⟨rfl, hW3⟩
      have hl3 := hW3.obj_heap At.here
      have := run_endRound (P := P) none hl3
      rw [hrec] at this hW3
      refine ⟨_, _, this, rfl, ?_⟩
      rw [hrec]
      exact hW3.putObj .here
    · rintro e W2 ⟨v, rfl, hW2⟩
      have hl := hW2.obj_heap At.here
      have := run_endLoop (P := P) hl (by rw [hrec]; simp)
      rw [hrec] at this
      refine ⟨none, _, this, ?_⟩
      have hd := hf.defers
      simp only at hd
      have h5 : St w0 (obj w.heap.size (.deferred (some [])) :: LB K) (W2.putObj (w.heap.size + 1) (.loop { rec .ready none with state := .exhausted })) := (hW2.putObj (o' := .loop { rec .ready none with state := .exhausted }) .here).drop 1
      rw [hrec] at h5
      exact (k w.heap.size).go _ _ ⟨hf.size, by simp [hd], hf.get⟩ h5

/-! ### A function with marks at its end -/
theorem TC.callsM {N : Nat} {f : FuncId} {fn : Func} {c : Code} {l : List Value} {w0 : World} {R : Ending → World → Prop} (hf : P.funcs[f]? = some fn) (hb : fn.body = some c) (hn : fn.ntmps = N) (hl : Nat.ble l.length N = true)
    (hm : M w0) (h : TC P c (bodyPostM Fence.wide 9 P fn R) ⟨N, []⟩ (argS 0 l) M) : Calls P f l.toArray w0 R := by
  refine callsIn_wide.1 (callsIn_of_wp_marks (n := 9) hf hb trivial (wpIn_wide.2 (h.go _ _ ⟨?_, rfl, ?_⟩ hm)))
  · have := Nat.le_of_ble_eq_true hl
    simp [hn]
    omega
  · intro i v hi
    obtain ⟨_, h2⟩ := lk_argS l 0 i v hi
    have hlt := (List.getElem?_eq_some_iff.1 h2).1
    simp at h2 hlt
    simp only [Array.getElem?_append, List.getElem?_toArray, List.size_toArray, hlt, if_true, Array.getD_eq_getD_getElem?, h2, Option.getD_some]
theorem leaves_marks {fn : Func} {tmps : Array Value} {R : Ending → World → Prop} {w0 : World} {L : List HP} {v : Value} (hr : ∀ w, St w0 L w → (results fn tmps).run P w = .ok v w) (hR : ∀ w, St w0 L w → R (.returned v) w) :
    ∀ (ds : List Deferred) (w : World), St w0 (marks ds :: L) w → LeavesInM Fence.wide 9 P fn tmps R ds .returning w
  | [], w, h => ⟨v, hr w h.tail, hR w h.tail⟩
  | d :: ds, w, h => by
    obtain ⟨hb, S1, h1, ⟨D, rfl, hD, hg, hm⟩, h3⟩ := h
    refine ⟨by simp, .inl ⟨D, _, rfl, run_takeDeferred hg, leaves_marks hr hR ds _ ?_⟩⟩
    have hc : Chg w (w.putObj D (.deferred none)) (fun b => b = D) := chg_putObj rfl
    have hlt := (h1 D hD).2
    refine ⟨⟨hc.os.trans hb.os, hc.tape.trans hb.tape, hc.output.trans hb.output, Nat.le_trans hb.size hc.size, fun k hk => ?_⟩, fun b => S1 b ∧ b ≠ D, fun b hx => ⟨(h1 b hx.1).1, by simpa using (h1 b hx.1).2⟩, ?_, ?_⟩
    · have := (h1 D hD).1
      rw [hc.block k (Nat.lt_of_lt_of_le hk hb.size) (by omega)]
      exact hb.block k hk
    · exact (marks ds).loc (fun b hx => World.putObj_heap_other hx.2) hm
    · refine h3.keep (fun b hx => ⟨⟨hx.1.1, by simpa using hx.1.2⟩, fun hx1 => hx.2 hx1.1⟩) (fun b hx => World.putObj_heap_other (fun e => hx.2 (e ▸ hD)))
theorem TX.retM_tmp {fn : Func} {N : Nat} {ds : List Deferred} {R : Ending → World → Prop} {w0 : World} {L : List HP} {t : Nat} (hr : fn.results = #[.tmp t]) (hv : lk s t = some v) (hM : ∀ w, M w → St w0 (marks ds :: L) w)
    (k : ∀ w, St w0 L w → R (.returned v) w) : TX (bodyPostM Fence.wide 9 P fn R) .ret ⟨N, ds⟩ s M := by
  refine ⟨fun a w hf hm => ?_⟩
  show LeavesInM Fence.wide 9 P fn a.tmps R a.defers .returning w
  rw [hf.defers]
  refine leaves_marks (v := v) (fun w _ => ?_) k ds w (hM w hm)
  have := results_tmp (P := P) hr a.tmps w
  rw [hf.get t v hv] at this
  exact this
/-- a loop whose rounds add marks -/
theorem TC.loopM {c : Code} {N : Nat} {ds0 : List Deferred} {ι : Type _} (x0 : ι) (df : ι → List Deferred) (md : ι → Sg → Sg) (M' : ι → World → Prop) (p : ι → Prop) (μ : ι → Nat) {s1 : Sg} (hk : Kp (asg c []) s s1)
    (hs : Sub (md x0 s1) s) (hd : df x0 = ds0) (hM : ∀ w, M w → M' x0 w) (hp : p x0)
    (round : ∀ x, p x → TC P c (Exit.then (fun a w => ∃ y, p y ∧ μ y < μ x ∧ Fr ⟨N, df y⟩ (md y s1) a ∧ M' y w) Q) ⟨N, df x⟩ (md x s1) (M' x)) : TC P (.loop c) Q ⟨N, ds0⟩ s M := by
  subst hd
  refine ⟨fun a w hf hm b k cs => ?_⟩
  have key : ∀ m x a w, μ x = m → p x → Fr ⟨N, df x⟩ (md x s1) a → M' x w →
      ∃ e a' w', Q e a' w' ∧ Arrives P (lone (b.at a (.code c :: .inLoop c :: k)) cs w) b k cs e a' w' := by
    intro m
    induction m using Nat.strongRecOn with
    | _ m ih =>
      intro x a w hmx hp hf hm
      obtain ⟨e, a₁, w₁, hq, harr⟩ := (round x hp).go a w hf hm b (.inLoop c :: k) cs
      cases e with
      | normal =>
        obtain ⟨y, hpy, hlt, hfy, hmy⟩ := hq
        obtain ⟨e₂, a₂, w₂, hq₂, harr₂⟩ := ih (μ y) (hmx ▸ hlt) y a₁ w₁ rfl hpy hfy hmy
        exact ⟨e₂, a₂, w₂, hq₂, .of_steps (Steps.trans harr (.one step_inLoop)) harr₂⟩
      | exit id => exact ⟨_, a₁, w₁, hq, .pass (x := .inLoop c) rfl (fun _ _ => .inl (by simp)) harr⟩
      | goto l => exact ⟨_, a₁, w₁, hq, .pass (x := .inLoop c) rfl (fun _ _ => .inl (by simp)) harr⟩
      | ret => exact ⟨_, a₁, w₁, hq, .pass (x := .inLoop c) rfl (fun _ _ => .inl (by simp)) harr⟩
      | panic ch => exact ⟨_, a₁, w₁, hq, .pass (x := .inLoop c) rfl (fun _ _ => .inl (by simp)) harr⟩
      | outgrown => exact ⟨_, a₁, w₁, hq, .pass (x := .inLoop c) rfl (fun _ _ => .inl (by simp)) harr⟩
  obtain ⟨e, a', w', hq, harr⟩ := key _ x0 a w rfl hp (hf.sub hs) (hM w hm)
  exact ⟨e, a', w', hq, .of_steps (.one step_loop) harr⟩
theorem TX.roundM {N : Nat} {ds : List Deferred} {ι : Type _} {df : ι → List Deferred} {s' : ι → Sg} {M' : ι → World → Prop} {p : ι → Prop} {μ : ι → Nat} {m : Nat} (y : ι) (hp : p y) (hμ : μ y < m) (hd : df y = ds) (hs : Sub (s' y) s) (hM : ∀ w, M w → M' y w) :
    TX (Exit.then (fun a w => ∃ y, p y ∧ μ y < m ∧ Fr ⟨N, df y⟩ (s' y) a ∧ M' y w) Q) .normal ⟨N, ds⟩ s M := ⟨fun a w hf hm => ⟨y, hp, hμ, by rw [hd]; exact hf.sub hs, hM w hm⟩⟩
theorem W1f {p q : Prop} (k : q) (h : Hold q → p := by (intro k; first | (apply TF.ev_; (exact rfl); (exact EvA); (exact k.go)) | (apply TF.nil; (exact k.go)) | (apply TF.lit1; (exact rfl); (exact rfl); (exact rfl); (exact rfl); (exact rfl); (exact k.go)) | (apply TF.store; (exact rfl); (exact rfl); (exact rfl); (exact rfl); (exact rfl); (exact UpdA); (exact rfl); (exact k.go)) | (apply TCF.region; (exact k.go)) | (apply TCF.block; (exact k.go)) | (apply TX.block_normal; (exact k.go)) | (apply TX.then_normal; (exact k.go)))) : p := h ⟨k⟩
end
end Go.Sl
