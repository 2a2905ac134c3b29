/-
  Opening what comes in: ints, nodes, trees, slices of trees.
-/
import Derived.Test.YtalnmednhhimhaaDoorTrees
import Derived.ProofKit
import Derived.Carry
import Derived.OpenShut
set_option linter.all false
namespace Go.Bonsai
open Go Go.Sl Go.RowKit
variable {H : Type} {enc : TypeId × Value → H} {P : Program} {w : World}

/-- no part takes more than there may be -/
def Sized (P : Program) (t : TypeId) (d : DataW H) : Prop := ∀ k ∈ d.weights P t, k ≤ reachBytes
theorem sized_all {e : TypeId} : ∀ {l : List (DataW H)}, (∀ k ∈ DataW.weightsAll P e l, k ≤ reachBytes) → ∀ d ∈ l, Sized P e d
  | [], _, d, hd => by cases hd
  | x :: l, h, d, hd => by
    simp only [DataW.weightsAll, List.mem_append] at h
    rcases List.mem_cons.1 hd with rfl | hd
    · exact fun k hk => h k (.inl hk)
    · exact sized_all (fun k hk => h k (.inr hk)) d hd
theorem sized_each : ∀ {ts : List TypeId} {l : List (DataW H)}, (∀ k ∈ DataW.weightsEach P ts l, k ≤ reachBytes) → ∀ (i : Nat) t d, ts[i]? = some t → l[i]? = some d → Sized P t d
  | [], _, _, i, t, d, ht, _ => by simp at ht
  | _ :: _, [], _, i, t, d, _, hd => by simp at hd
  | t0 :: ts, x :: l, h, 0, t, d, ht, hd => by
    simp only [DataW.weightsEach, List.mem_append] at h
    simp at ht hd
    subst ht; subst hd
    exact fun k hk => h k (.inl hk)
  | t0 :: ts, x :: l, h, i + 1, t, d, ht, hd => by
    simp only [DataW.weightsEach, List.mem_append] at h
    exact sized_each (fun k hk => h k (.inr hk)) i t d (by simpa using ht) (by simpa using hd)

theorem open_slice {α : Type} [Inhabited α] {t e sz : Nat} {R : List Value → α → Prop} {F : α → Prop} (ht : P.underlying t = some (.slice e)) (hc : P.cellsOf e = sz) (hsz : 0 < sz)
    (hE : ∀ (n : Nat) cs (y : DataW H × List MemPlace), DataW.trod enc P w 0 (fun _ => true) true n e cs = some y → Sized P e y.1 → ∃ a, R cs a ∧ F a)
    {fuel : Nat} {cs : List Value} {x : DataW H × List MemPlace} (h : DataW.trod enc P w 0 (fun _ => true) true fuel t cs = some x) (hs : Sized P t x.1) :
    ∃ (xs : List α) (A : Option Addr) (c : Nat) (rows : List (List Value)), cs = [.slice A xs.length c] ∧ Arr sz (Old w) w A xs.length rows ∧ All2 R rows xs ∧ xs.length ≤ c ∧ xs.length * P.bytesOf e ≤ reachBytes ∧ ∀ a ∈ xs, F a := by
  rcases DataW.trod_slice ht h with ⟨rfl, rfl⟩ | ⟨a, len, cap, elems, rest, n, rfl, rfl, rfl, _, hlc, hcm, hel, hg, _, _⟩
  · exact ⟨[], none, 0, [], rfl, Arr.nil, .nil, Nat.le_refl _, by simp, by simp⟩
  · unfold Sized at hs
    simp only [DataW.weights, ht, List.mem_cons, List.mem_append, List.length_map] at hs
    have hb := hs _ (.inl rfl)
    have hse := sized_all (P := P) (e := e) (fun k hk => hs k (.inr (.inl hk)))
    have key : ∀ i : Nat, ∃ p : List Value × α, i < len → w.cells? 0 (a.add (i * sz)) sz = some p.1 ∧ R p.1 p.2 ∧ F p.2 := by
      intro i
      by_cases hi : i < len
      · have h1 := hg i hi
        rw [List.getElem?_eq_getElem (by omega), hc] at h1
        obtain ⟨ci, h2, h3⟩ := Option.bind_eq_some_iff.1 h1
        obtain ⟨ai, h4, h5⟩ := hE n ci _ h3 (hse _ (List.mem_map.2 ⟨elems[i], List.getElem_mem _, rfl⟩))
        exact ⟨(ci, ai), fun _ => ⟨h2, h4, h5⟩⟩
      · exact ⟨([], default), fun h => absurd h hi⟩
    obtain ⟨f, hf⟩ := Classical.axiomOfChoice key
    have hlr : ((List.range len).map fun i => (f i).1).length = len := by simp
    have hlx : ((List.range len).map fun i => (f i).2).length = len := by simp
    have hgr : ∀ i, i < len → ((List.range len).map fun i => (f i).1)[i]? = some (f i).1 := fun i hi => by simp [hi]
    have hgx : ∀ i, i < len → ((List.range len).map fun i => (f i).2)[i]? = some (f i).2 := fun i hi => by simp [hi]
    have hrs : ∀ r ∈ (List.range len).map (fun i => (f i).1), r.length = sz := by
      intro r hr
      obtain ⟨i, hi, rfl⟩ := List.mem_map.1 hr
      exact (World.cells?_some (hf i (List.mem_range.1 hi)).1).2.1
    refine ⟨(List.range len).map fun i => (f i).2, some a, cap, (List.range len).map fun i => (f i).1, by rw [hlx], ?_, ⟨by rw [hlr, hlx], fun i x y hx hy => ?_⟩, by rw [hlx]; exact hlc, ?_, fun y hy => ?_⟩
    · rw [hlx]
      refine ⟨hlr, hrs, fun h0 => ⟨a, rfl, ?_, fun j v hj => ?_⟩⟩
      · have := World.cells?_block (hf 0 h0).1 hsz
        simpa [add_block] using this
      · have hjl : j < len * sz := by
          have := (List.getElem?_eq_some_iff.1 hj).1
          rwa [length_flatten hrs, hlr] at this
        have hi : j / sz < len := Nat.div_lt_of_lt_mul (by rw [Nat.mul_comm]; exact hjl)
        have ho : j % sz < sz := Nat.mod_lt _ hsz
        have hdm : j / sz * sz + j % sz = j := by rw [Nat.mul_comm]; exact Nat.div_add_mod j sz
        have h1 := flatten_at hrs (hgr _ hi) ho
        rw [hdm, hj] at h1
        have h2 := (World.cells?_some (hf _ hi).1).2.2 _ ho
        rw [Sl.add_add, hdm, ← h1] at h2
        exact h2
    · have hi : i < len := by have := (List.getElem?_eq_some_iff.1 hx).1; simpa using this
      rw [hgr i hi] at hx
      rw [hgx i hi] at hy
      injection hx with hx
      injection hy with hy
      subst hx; subst hy
      exact (hf i hi).2.1
    · rw [hlx]
      refine Nat.le_trans (Nat.mul_le_mul_right _ ?_) hb
      omega
    · obtain ⟨i, hi, rfl⟩ := List.mem_map.1 hy
      exact (hf i (List.mem_range.1 hi)).2.2
theorem reach_eq : reachBytes = 140737488351232 := by decide
theorem lit_i64 {n : Int} (h : (Lit.int .i64 n).wf = true) : I64 n := by
  simp only [Lit.wf, Bool.and_eq_true, decide_eq_true_eq] at h
  exact h
theorem lit_u8 {n : Int} (h : (Lit.int .u8 n).wf = true) : 0 ≤ n ∧ n ≤ 255 := by
  simp only [Lit.wf, Bool.and_eq_true, decide_eq_true_eq] at h
  exact h
theorem lit_u64 {n : Int} (h : (Lit.int .u64 n).wf = true) : 0 ≤ n ∧ n < 18446744073709551616 := by
  simp only [Lit.wf, Bool.and_eq_true, decide_eq_true_eq] at h
  have h1 : (0 : Int) ≤ n := h.1
  have h2 : n ≤ (18446744073709551615 : Int) := h.2
  omega
instance : Inhabited Nod := ⟨.zero⟩
instance : Inhabited Tre := ⟨.zero⟩
end Go.Bonsai
namespace Go.Proofs.YtalnmednhhimhaaDoor
open Go Go.Sl Go.RowKit Go.Bonsai
set_option linter.unusedVariables false
variable {H : Type} {enc : TypeId × Value → H} {w : World}

theorem cel3 : Tryd.prog.cellsOf 3 = 1 := by kernel_rfl
theorem celN : Tryd.prog.cellsOf 55 = 9 := by kernel_rfl
theorem celT : Tryd.prog.cellsOf 24 = 2 := by kernel_rfl
theorem celB : Tryd.prog.cellsOf 52 = 4 := by kernel_rfl
theorem celU : Tryd.prog.cellsOf 50 = 1 := by kernel_rfl
theorem cel8 : Tryd.prog.cellsOf 5 = 1 := by kernel_rfl
theorem celS : Tryd.prog.cellsOf 9 = 1 := by kernel_rfl
theorem celI : Tryd.prog.cellsOf 53 = 1 := by kernel_rfl
theorem celNs : Tryd.prog.cellsOf 22 = 1 := by kernel_rfl
theorem byt3 : Tryd.prog.bytesOf 3 = 8 := by kernel_rfl
theorem bytN : Tryd.prog.bytesOf 55 = 96 := by kernel_rfl
theorem bytT : Tryd.prog.bytesOf 24 = 32 := by kernel_rfl

theorem open_ints_ {fuel : Nat} {cs : List Value} {x : DataW H × List MemPlace} (h : DataW.trod enc Tryd.prog w 0 (fun _ => true) true fuel 53 cs = some x) (hs : Sized Tryd.prog 53 x.1) : ∃ xs A c, cs = [.slice A xs.length c] ∧ Arr 1 (Old w) w A xs.length (irows xs) ∧ xs.length ≤ c ∧ intsWf xs := by
  obtain ⟨xs, A, c, rows, h1, h2, h3, h4, h5, h6⟩ := open_slice (R := fun cs (a : Int) => cs = [.int .i64 a]) (F := fun a => I64 a) Tryd.underlying53 cel3 (by decide) (fun n cs y hy _ => by
    obtain ⟨k, e1, e2, e3⟩ := DataW.trod_int Tryd.underlying3 hy
    exact ⟨k, e1, lit_i64 e3⟩) h hs
  have e : rows = irows xs := by
    apply List.ext_getElem?
    intro i
    by_cases hi : i < xs.length
    · have hr : i < rows.length := by rw [h3.1]; exact hi
      rw [List.getElem?_eq_getElem hr, irows_get (List.getElem?_eq_getElem hi)]
      exact congrArg some (h3.2 i _ _ (List.getElem?_eq_getElem hr) (List.getElem?_eq_getElem hi))
    · rw [List.getElem?_eq_none (by rw [h3.1]; omega), List.getElem?_eq_none (by rw [irows_len]; omega)]
  rw [e] at h2
  rw [byt3] at h5
  refine ⟨xs, A, c, h1, h2, h4, ?_, h6⟩
  rw [reach_eq] at h5
  unfold bigL
  omega

set_option maxRecDepth 100000 in
theorem open_node {fuel : Nat} {cs : List Value} {x : DataW H × List MemPlace} (h : DataW.trod enc Tryd.prog w 0 (fun _ => true) true fuel 55 cs = some x) (hs : Sized Tryd.prog 55 x.1) : ∃ n : Nod, RNode (Old w) w cs n ∧ n.wf := by
  obtain ⟨xs, m, _, rfl, hl, hlen, hf⟩ := DataW.trod_struct Tryd.underlying55 h
  have hl := hl.trans celN
  match cs, hl with
  | [c0, c1, c2, c3, c4, c5, c6, c7, c8], _ =>
    match xs, hlen with
    | [y0, y1, y2, y3, y4, y5], _ =>
      unfold Sized at hs
      simp only [DataW.weights, Tryd.underlying55] at hs
      have hse := sized_each hs
      have f0 := hf 0 _ rfl
      have f1 := hf 1 _ rfl
      have f2 := hf 2 _ rfl
      have f3 := hf 3 _ rfl
      have f4 := hf 4 _ rfl
      have f5 := hf 5 _ rfl
      simp only [cel8, celB, celS, cel3, celI, List.drop_succ_cons, List.drop_zero, List.take_succ_cons, List.take_zero, List.getElem?_cons_zero, List.getElem?_cons_succ] at f0 f1 f2 f3 f4 f5
      obtain ⟨k0, e0, _, w0⟩ := DataW.trod_int Tryd.underlying5 f0
      obtain ⟨zs, m1, _, _, _, hzl, hz⟩ := DataW.trod_array Tryd.underlying52 f1
      obtain ⟨s, e2, rfl', _⟩ := DataW.trod_string Tryd.underlying9 f2
      obtain ⟨k3, e3, _, w3⟩ := DataW.trod_int Tryd.underlying3 f3
      obtain ⟨k4, e4, _, w4⟩ := DataW.trod_int Tryd.underlying3 f4
      obtain ⟨ks, A, c, e5, hA, hc, hw5⟩ := open_ints_ f5 (hse 5 _ _ rfl rfl)
      match zs, hzl with
      | [z0, z1, z2, z3], _ =>
        have g0 := hz 0 (by decide)
        have g1 := hz 1 (by decide)
        have g2 := hz 2 (by decide)
        have g3 := hz 3 (by decide)
        simp only [celU, Nat.zero_mul, Nat.one_mul, Nat.mul_one, List.drop_succ_cons, List.drop_zero, List.take_succ_cons, List.take_zero, List.getElem?_cons_zero, List.getElem?_cons_succ] at g0 g1 g2 g3
        obtain ⟨b0, q0, _, u0⟩ := DataW.trod_int Tryd.underlying50 g0
        obtain ⟨b1, q1, _, u1⟩ := DataW.trod_int Tryd.underlying50 g1
        obtain ⟨b2, q2, _, u2⟩ := DataW.trod_int Tryd.underlying50 g2
        obtain ⟨b3, q3, _, u3⟩ := DataW.trod_int Tryd.underlying50 g3
        have hst := hse 2 _ _ rfl rfl
        have htx : s.size ≤ reachBytes := by
          have e : y2.1 = .lit (.string s.data.toList) := by rw [rfl']
          simp only [List.map_cons, List.getElem?_cons_zero, List.getElem?_cons_succ] at hst
          rw [e] at hst
          have := hst s.data.toList.length (by simp [DataW.weights])
          simpa using this
        obtain ⟨rfl, _⟩ := List.cons.inj e0
        obtain ⟨rfl, _⟩ := List.cons.inj e2
        obtain ⟨rfl, _⟩ := List.cons.inj e3
        obtain ⟨rfl, _⟩ := List.cons.inj e4
        obtain ⟨rfl, _⟩ := List.cons.inj e5
        obtain ⟨rfl, _⟩ := List.cons.inj q0
        obtain ⟨rfl, _⟩ := List.cons.inj q1
        obtain ⟨rfl, _⟩ := List.cons.inj q2
        obtain ⟨rfl, _⟩ := List.cons.inj q3
        refine ⟨⟨k0, ⟨b0, b1, b2, b3⟩, s, k3, k4, ks⟩, ⟨.slice A ks.length c, rfl, A, c, rfl, hA, hc⟩, lit_u8 w0, ⟨lit_u64 u0, lit_u64 u1, lit_u64 u2, lit_u64 u3⟩, ?_, lit_i64 w3, lit_i64 w4, hw5⟩
        show s.size ≤ 140737488355328
        rw [reach_eq] at htx
        omega

theorem open_nodes {fuel : Nat} {cs : List Value} {x : DataW H × List MemPlace} (h : DataW.trod enc Tryd.prog w 0 (fun _ => true) true fuel 22 cs = some x) (hs : Sized Tryd.prog 22 x.1) : ∃ ns A c, cs = [.slice A ns.length c] ∧ RNodes (Old w) w (.slice A ns.length c) ns ∧ ns.length ≤ bigN ∧ ∀ n ∈ ns, n.wf := by
  obtain ⟨ns, A, c, rows, h1, h2, h3, h4, h5, h6⟩ := open_slice (R := RNode (Old w) w) (F := Nod.wf) Tryd.underlying22 celN (by decide) (fun n cs y hy hys => open_node hy hys) h hs
  rw [bytN] at h5
  refine ⟨ns, A, c, h1, ⟨A, c, rows, rfl, h2, h3, h4⟩, ?_, h6⟩
  rw [reach_eq] at h5
  unfold bigN
  omega
set_option maxRecDepth 100000 in
theorem open_tree {fuel : Nat} {cs : List Value} {x : DataW H × List MemPlace} (h : DataW.trod enc Tryd.prog w 0 (fun _ => true) true fuel 24 cs = some x) (hs : Sized Tryd.prog 24 x.1) : ∃ t : Tre, RTreeC (Old w) w cs t ∧ t.wf := by
  obtain ⟨xs, m, _, rfl, hl, hlen, hf⟩ := DataW.trod_struct Tryd.underlying24 h
  have hl := hl.trans celT
  match cs, hl with
  | [c0, c1], _ =>
    match xs, hlen with
    | [y0, y1], _ =>
      unfold Sized at hs
      simp only [DataW.weights, Tryd.underlying24] at hs
      have hse := sized_each hs
      have f0 := hf 0 _ rfl
      have f1 := hf 1 _ rfl
      simp only [celNs, cel3, List.drop_succ_cons, List.drop_zero, List.take_succ_cons, List.take_zero, List.getElem?_cons_zero, List.getElem?_cons_succ] at f0 f1
      obtain ⟨ns, A, c, e0, hr, hnl, hw⟩ := open_nodes f0 (hse 0 _ _ rfl rfl)
      obtain ⟨k1, e1, _, w1⟩ := DataW.trod_int Tryd.underlying3 f1
      obtain ⟨rfl, _⟩ := List.cons.inj e0
      obtain ⟨rfl, _⟩ := List.cons.inj e1
      exact ⟨⟨ns, k1⟩, ⟨A, c, rfl, hr⟩, hnl, hw, lit_i64 w1⟩
theorem open_trees {fuel : Nat} {cs : List Value} {x : DataW H × List MemPlace} (h : DataW.trod enc Tryd.prog w 0 (fun _ => true) true fuel 69 cs = some x) (hs : Sized Tryd.prog 69 x.1) : ∃ ts A c, cs = [.slice A ts.length c] ∧ RTrees (Old w) w (.slice A ts.length c) ts ∧ ts.length * 32 ≤ reachBytes ∧ ∀ t ∈ ts, t.wf := by
  obtain ⟨ts, A, c, rows, h1, h2, h3, h4, h5, h6⟩ := open_slice (R := RTreeC (Old w) w) (F := Tre.wf) Tryd.underlying69 celT (by decide) (fun n cs y hy hys => open_tree hy hys) h hs
  rw [bytT] at h5
  exact ⟨ts, A, c, h1, ⟨A, c, rows, rfl, h2, h3, h4⟩, h5, h6⟩
end Go.Proofs.YtalnmednhhimhaaDoor
