/-
  Operations that turn memory, said of owned pieces; calls; the end of a body.
-/
import Derived.Test.YtlhkkngpppcfoaaDoorOps
set_option linter.all false
namespace Go.Sl
open Go.RowKit
set_option linter.unusedVariables false

inductive Del : List HP → HP → List HP → Prop where
  | here {H : HP} {L : List HP} : Del (H :: L) H L
  | there {H K : HP} {L L' : List HP} : Del L H L' → Del (K :: L) H (K :: L')

theorem Sep.del_ {L L' : List HP} {H : HP} (h : Del L H L') : ∀ {S : Nat → Prop} {w : World}, Sep L S w → Sep (H :: L') S w := by
  induction h with
  | here => exact fun h => h
  | there _ ih =>
    rintro S w ⟨S1, h1, h2, h3⟩
    obtain ⟨S2, g1, g2, g3⟩ := ih h3
    exact Sep.swap ⟨S1, h1, h2, S2, g1, g2, g3⟩

inductive Inc : List HP → List HP → Prop where
  | nil {L : List HP} : Inc L []
  | cons {L L0 L' : List HP} {H : HP} : Del L H L0 → Inc L0 L' → Inc L (H :: L')

theorem Sep.inc {L L' : List HP} (h : Inc L L') : ∀ {S : Nat → Prop} {w : World}, Sep L S w → Sep L' S w := by
  induction h with
  | nil => exact fun _ => trivial
  | cons hd _ ih =>
    intro S w hs
    obtain ⟨S1, h1, h2, h3⟩ := hs.del_ hd
    exact ⟨S1, h1, h2, ih h3⟩

section
variable {w0 w : World} {L L' : List HP} {H : HP}
theorem St.del (h : Del L H L') (hs : St w0 L w) : St w0 (H :: L') w := ⟨hs.below, hs.sep.del_ h⟩
theorem St.inc (h : Inc L L') (hs : St w0 L w) : St w0 L' w := ⟨hs.below, hs.sep.inc h⟩
theorem Del.at_ (h : Del L H L') : At L H := by
  induction h with
  | here => exact .here
  | there _ ih => exact .there ih
/-- pieces that were made by a call -/
theorem Sep.append : ∀ {K L : List HP} {S S' S'' : Nat → Prop} {w : World}, Sep K S w → Sep L S' w → (∀ b, S b → S'' b) → (∀ b, S' b → S'' b) → (∀ b, S b → ¬ S' b) → Sep (K ++ L) S'' w
  | [], _, _, _, _, _, _, h2, _, hb, _ => h2.keep hb (fun _ _ => rfl)
  | H :: K, L, S, S', S'', w, ⟨S1, g1, g2, g3⟩, h2, ha, hb, hd =>
    ⟨S1, fun b hx => ha b (g1 b hx), g2, Sep.append g3 h2 (fun b hx => ⟨ha b hx.1, hx.2⟩) (fun b hx => ⟨hb b hx, fun hx1 => hd b (g1 b hx1) hx⟩) (fun b hx => hd b hx.1)⟩
theorem St.pushL {K : List HP} {w' : World} (h : St w0 L w) (hc : Below w.heap.size w w') (hh : Sep K (fun b => w.heap.size ≤ b ∧ b < w'.heap.size) w') : St w0 (K ++ L) w' := by
  refine ⟨h.below.trans (hc.mono h.below.size), ?_⟩
  refine hh.append (S' := fun b => w0.heap.size ≤ b ∧ b < w.heap.size) (h.sep.keep (fun _ hb => hb) (fun b hb => hc.block b hb.2)) (fun b hb => ⟨Nat.le_trans h.below.size hb.1, hb.2⟩)
    (fun b hb => ⟨hb.1, Nat.lt_of_lt_of_le hb.2 hc.size⟩) (fun b hb hb' => ?_)
  have h1 := hb.1
  have h2 := hb'.2
  omega
end

/-! ### Blocks -/
section
variable {P : Program} {ops : Array Oper} {Q : Exit → Act → World → Prop} {rest : List Oper} {n : FD} {s : Sg} {M : World → Prop}
  {op : Op} {ty : TypeId} {pos : String} {af : Array Edge} {d : Nat} {v : Value} {w0 : World} {L L' : List HP}

theorem Chg.refl {w : World} {S1 : Nat → Prop} : Chg w w S1 := ⟨rfl, rfl, rfl, Nat.le_refl _, fun _ _ _ => rfl⟩
theorem St.alloc {w : World} (h : St w0 L w) (cs : List Value) (t : TypeId) : St w0 (blk w.heap.size cs t :: L) (w.alloc (.cells cs.toArray t)) := by
  refine h.push (Chg.alloc _) ⟨⟨Nat.le_refl _, by simp⟩, heap_alloc_new w _⟩
theorem alloc_def (w : World) (o : Obj) : { w with heap := w.heap.push o } = w.alloc o := rfl

theorem Ac.box {x : Operand} {t : TypeId} {cs : List Value} (hx : ev s x = some v) (hv : v.cells = cs.toArray) : Ac P n s (St w0 L) (.box t x) ty (ι := Nat) (fun b => .pointer (some ⟨b, 0, none⟩)) (fun b => St w0 (blk b cs t :: L)) := by
  refine ⟨fun a w o ho ht hf hm => ?_⟩
  refine ⟨w.heap.size, w.alloc (.cells cs.toArray t), ?_, hm.alloc cs t⟩
  simp [execOp, ho, hf.ev hx, Instr.box, newVar, newRow, hv, alloc_def]
theorem T.box {x : Operand} {t : TypeId} {cs : List Value} (hd : Nat.blt d n.sz = true) (hx : ev s x = some v) (hv : v.cells = cs.toArray)
    (k : ∀ b, T P ops Q rest n ((d, .pointer (some ⟨b, 0, none⟩)) :: s) (St w0 (blk b cs t :: L))) : T P ops Q (⟨some d, .box t x, ty, pos, af, none⟩ :: rest) n s (St w0 L) :=
  T.act hd (Ac.box hx hv) k
theorem Ac.alloc {t : TypeId} {z : Value} {cs : List Value} [hz : ZV P t z] (hv : z.cells = cs.toArray) : Ac P n s (St w0 L) (.alloc t) ty (ι := Nat) (fun b => .pointer (some ⟨b, 0, none⟩)) (fun b => St w0 (blk b cs t :: L)) := by
  refine ⟨fun a w o ho ht hf hm => ?_⟩
  refine ⟨w.heap.size, w.alloc (.cells cs.toArray t), ?_, hm.alloc cs t⟩
  simp [execOp, ho, Instr.alloc, hz.run w, newVar, newRow, hv, alloc_def]
theorem T.alloc {t : TypeId} {z : Value} {cs : List Value} (hd : Nat.blt d n.sz = true) [hz : ZV P t z] (hv : z.cells = cs.toArray)
    (k : ∀ b, T P ops Q rest n ((d, .pointer (some ⟨b, 0, none⟩)) :: s) (St w0 (blk b cs t :: L))) : T P ops Q (⟨some d, .alloc t, ty, pos, af, none⟩ :: rest) n s (St w0 L) :=
  T.act hd (Ac.alloc hv) k

def splice (cs : List Value) (o : Nat) (vs : List Value) : List Value := cs.take o ++ vs ++ cs.drop (o + vs.length)
theorem length_splice {cs vs : List Value} {o : Nat} (h : o + vs.length ≤ cs.length) : (splice cs o vs).length = cs.length := by
  simp [splice]; omega
theorem take_splice {l vs : List Value} {p N : Nat} (h : p + vs.length ≤ N) (hp : p ≤ l.length) : (splice l p vs).take N = splice (l.take N) p vs := by
  unfold splice
  have h1 : (l.take p).length = p := by simp; omega
  rw [List.append_assoc, List.take_append, List.take_of_length_le (by omega), h1, List.take_append, List.take_of_length_le (l := vs) (by omega), List.drop_take, List.take_take, Nat.min_eq_left (by omega)]
  simp [Nat.sub_sub]
theorem splice_one {cs : List Value} {o : Nat} {v : Value} : splice cs o [v] = if o < cs.length then cs.set o v else cs ++ [v] := by
  unfold splice
  split
  · rename_i h
    rw [List.set_eq_take_append_cons_drop]
    simp [h]
  · rename_i h
    rw [List.take_of_length_le (by omega), List.drop_of_length_le (by simp; omega)]
    simp

theorem chg_setRow {w : World} {g : Nat} {cs : Array Value} {S1 : Nat → Prop} (hg : S1 g) : Chg w (w.setRow g cs) S1 :=
  ⟨rfl, rfl, rfl, by simp, fun b _ hn => setRow_other w g b cs (fun e => hn (by subst e; exact hg))⟩

/-- v's cells are plain values -/
def oneB (vs : List Value) : Bool := vs.all (·.oneCell')
theorem oneB_spec {vs : List Value} (h : oneB vs = true) : ∀ v ∈ vs, v.oneCell' = true := by simpa [oneB] using h

theorem Ac.store {x y : Operand} {t t' b o k0 : Nat} {cs vs : List Value} [hs : SZ P t k0] (hx : ev s x = some (.pointer (some ⟨b, o, none⟩))) (hy : ev s y = some v) (hv : v.cells = vs.toArray) (hk0 : vs.length = k0) (h1 : oneB vs = true)
    (hu : Upd L (blk b cs t') (blk b (splice cs o vs) t') L') (hi : Nat.ble (o + vs.length) cs.length = true) : AcN P n s (St w0 L) (.store t x y) ty (ι := Unit) (fun _ => St w0 L') := by
  refine ⟨fun a w oo ho ht hf hm => ?_⟩
  obtain ⟨S1, g1, g2, g3⟩ := hm.upd hu
  obtain ⟨i, hi1, hi2⟩ := hs.info
  rw [← hk0] at hi2
  have hle : o + vs.length ≤ cs.length := Nat.le_of_ble_eq_true hi
  have hst := run_storeCells_at P b o t' vs 0 cs.toArray w g2.2 (by simpa using hle) (oneB_spec h1)
  refine ⟨(), w.setRow b (splice cs o vs).toArray, .inl ?_, g3 S1 _ (chg_setRow g2.1) (fun b hb => .inl hb) ⟨g2.1, setRow_heap w b cs.toArray _ t' (0, 0) g2.2⟩⟩
  simp only [Nat.add_zero] at hst
  simp [execOp, ho, hf.ev hx, hf.ev hy, Instr.storeAt, Instr.sureAddr, storeVar, sizeOf, typeInfo, hi1, hi2, hv, hst, splice]
theorem T.store {x y : Operand} {t t' b o k0 : Nat} {cs vs : List Value} [hs : SZ P t k0] (hx : ev s x = some (.pointer (some ⟨b, o, none⟩))) (hy : ev s y = some v) (hv : v.cells = vs.toArray) (hk0 : vs.length = k0) (h1 : oneB vs = true)
    (hu : Upd L (blk b cs t') (blk b (splice cs o vs) t') L') (hi : Nat.ble (o + vs.length) cs.length = true)
    (k : T P ops Q rest n s (St w0 L')) : T P ops Q (⟨none, .store t x y, ty, pos, af, none⟩ :: rest) n s (St w0 L) :=
  T.actN (Ac.store hx hy hv hk0 h1 hu hi) (fun _ => k)

/-! ### Slices of the call's own -/
theorem flatten_set {sz : Nat} : ∀ {rows : List (List Value)} (_ : ∀ r ∈ rows, r.length = sz) {i : Nat} {r vs : List Value} {o : Nat}, rows[i]? = some r → o + vs.length ≤ sz →
    (rows.set i (splice r o vs)).flatten = splice rows.flatten (i * sz + o) vs
  | [], _, i, r, vs, o, hi, _ => by simp at hi
  | x :: l, h, 0, r, vs, o, hi, ho => by
    simp at hi
    subst hi
    have hx := h x (by simp)
    simp only [List.set_cons_zero, List.flatten_cons, splice, Nat.zero_mul, Nat.zero_add]
    rw [List.take_append_of_le_length (by omega), List.drop_append_of_le_length (by omega)]
    simp [List.append_assoc]
  | x :: l, h, i + 1, r, vs, o, hi, ho => by
    simp at hi
    have hx := h x (by simp)
    have ih := flatten_set (rows := l) (fun r hr => h r (by simp [hr])) hi ho
    rw [List.set_cons_succ, List.flatten_cons, List.flatten_cons, ih]
    unfold splice
    rw [show (i + 1) * sz + o = x.length + (i * sz + o) by rw [hx, Nat.add_mul]; omega]
    rw [List.take_append, List.drop_append, List.take_of_length_le (l := x) (by omega), List.drop_of_length_le (l := x) (by omega)]
    simp [Nat.add_assoc, Nat.add_sub_cancel_left]

theorem own.store {e sz m c : Nat} {A : Option Addr} {rows : List (List Value)} {S : Nat → Prop} {w : World} (h : (own e sz A m c rows).on S w) {i o : Nat} {r vs : List Value}
    (hi : rows[i]? = some r) (ho : o + vs.length ≤ sz) (h1 : oneB vs = true) (h0 : 0 < vs.length) :
    ∃ w', (storeCells ((A.getD default).add (i * sz + o)) vs).run P w = .ok () w' ∧ Chg w w' S ∧ (own e sz A m c (rows.set i (splice r o vs))).on S w' := by
  obtain ⟨⟨hl, hc⟩, h2, h3, h4⟩ := h
  have hin : i < rows.length := (List.getElem?_eq_some_iff.1 hi).1
  have hr := h3 r (List.mem_of_getElem? hi)
  rcases hc with ⟨hv, h0'⟩ | ⟨g, cap, cur, hv, hg, hw, hr1, hr2, hr3, hr4⟩
  · omega
  · injection hv with hA hm' hcap
    subst hA
    subst hcap
    have hsz : i * sz + sz ≤ m * sz := by
      have := Nat.mul_le_mul_right sz (show i + 1 ≤ m by omega)
      rw [Nat.add_mul] at this
      omega
    have hmc : m * sz ≤ c * sz := Nat.mul_le_mul_right sz hr1
    have hle : i * sz + o + vs.length ≤ cur.size := by omega
    have hst := run_storeCells_at P g (i * sz + o) e vs 0 cur w hw (by simpa using hle) (oneB_spec h1)
    simp only [Nat.add_zero] at hst
    have hfl := flatten_set h3 hi ho
    refine ⟨w.setRow g (List.take (i * sz + o) cur.toList ++ vs ++ List.drop (i * sz + o + vs.length) cur.toList).toArray, ?_, chg_setRow (h4 g rfl), ⟨⟨?_, .inr ⟨g, c, _, rfl, hg, setRow_heap w g cur _ e (0, 0) hw, hr1, hr2, ?_, ?_⟩⟩, by simpa using h2, ?_, h4⟩⟩
    · simp only [Option.getD_some, add_lit, Nat.zero_add]
      exact hst
    · rw [hfl, length_splice (by rw [hl]; omega), hl]
    · simp only [List.size_toArray, List.length_append, List.length_take, List.length_drop, Array.length_toList]
      omega
    · rw [hfl, ← hr4]
      exact take_splice (by omega) (by simp; omega)
    · intro x hx
      rcases List.mem_or_eq_of_mem_set hx with hx | rfl
      · exact h3 x hx
      · rw [length_splice (by omega)]; exact hr

theorem Ac.storeA {x y : Operand} {t e sz i o q m c k0 : Nat} {A : Option Addr} {r vs : List Value} {rows : List (List Value)} [hs : SZ P t k0] (hx : ev s x = some (.pointer (some ((A.getD default).add q)))) (hy : ev s y = some v) (hv : v.cells = vs.toArray) (hk0 : vs.length = k0)
    (h1 : oneB vs = true) (h0 : Nat.blt 0 vs.length = true) (hu : Upd L (own e sz A m c rows) (own e sz A m c (rows.set i (splice r o vs))) L') (hq : q = i * sz + o) (hi : rows[i]? = some r) (ho : o + vs.length ≤ sz) : AcN P n s (St w0 L) (.store t x y) ty (ι := Unit) (fun _ => St w0 L') := by
  refine ⟨fun a w oo hoo ht hf hm => ?_⟩
  obtain ⟨S1, g1, g2, g3⟩ := hm.upd hu
  obtain ⟨j, hi1, hi2⟩ := hs.info
  rw [← hk0] at hi2
  obtain ⟨w', hr, hc, hh⟩ := own.store (P := P) g2 hi ho h1 (blt_lt h0)
  refine ⟨(), w', .inl ?_, g3 S1 w' hc (fun b hb => .inl hb) hh⟩
  rw [← hq] at hr
  simp [execOp, hoo, hf.ev hx, hf.ev hy, Instr.storeAt, Instr.sureAddr, storeVar, sizeOf, typeInfo, hi1, hi2, hv, hr]
theorem T.storeA {x y : Operand} {t e sz i o q m c k0 : Nat} {A : Option Addr} {r vs : List Value} {rows : List (List Value)} [hs : SZ P t k0] (hx : ev s x = some (.pointer (some ((A.getD default).add q)))) (hy : ev s y = some v) (hv : v.cells = vs.toArray) (hk0 : vs.length = k0)
    (h1 : oneB vs = true) (h0 : Nat.blt 0 vs.length = true) (hu : Upd L (own e sz A m c rows) (own e sz A m c (rows.set i (splice r o vs))) L') (hq : q = i * sz + o) (hi : rows[i]? = some r) (ho : o + vs.length ≤ sz)
    (k : T P ops Q rest n s (St w0 L')) : T P ops Q (⟨none, .store t x y, ty, pos, af, none⟩ :: rest) n s (St w0 L) :=
  T.actN (Ac.storeA hx hy hv hk0 h1 h0 hu hq hi ho) (fun _ => k)

theorem rep_flatten {sz : Nat} {zl : List Value} (hz : zl.length = sz) (hp : 0 < sz) : ∀ (m j : Nat), (List.replicate m zl).flatten[j]? = if j < m * sz then zl[j % sz]? else none
  | 0, j => by simp
  | m + 1, j => by
    rw [List.replicate_succ, List.flatten_cons, List.getElem?_append, hz]
    by_cases h : j < sz
    · rw [if_pos h, if_pos (by rw [Nat.add_mul]; omega), Nat.mod_eq_of_lt h]
    · rw [if_neg h, rep_flatten hz hp m (j - sz)]
      have e : (j - sz) % sz = j % sz := by rw [← Nat.mod_eq_sub_mod (by omega)]
      rw [e]
      by_cases h2 : j < (m + 1) * sz
      · rw [if_pos h2, if_pos (by rw [Nat.add_mul] at h2; omega)]
      · rw [if_neg h2, if_neg (by rw [Nat.add_mul] at h2; omega)]
theorem made_flatten {sz : Nat} {z : Value} (hz : z.cells.size = sz) (hp : 0 < sz) (m : Nat) : (madeCells z.cells (m * sz)).toList = (List.replicate m z.cells.toList).flatten := by
  subst hz
  apply List.ext_getElem?
  intro j
  rw [rep_flatten (sz := z.cells.size) (by simp) hp]
  by_cases h : j < m * z.cells.size
  · have hlt : j % z.cells.size < z.cells.size := Nat.mod_lt _ hp
    have h2 : j < (madeCells z.cells (m * z.cells.size)).toList.length := by simpa [size_madeCells] using h
    rw [if_pos h, List.getElem?_eq_getElem h2]
    simp [madeCells, hlt]
  · rw [if_neg h]
    simp [madeCells, h]

theorem Ac.make {x y : Operand} {t e sz by_ m : Nat} {z : Value} {k1 k2 : IntKind} [ht : SlT P t e sz by_ z] (hx : ev s x = some (.int k1 (m : Int))) (hy : ev s y = some (.int k2 (m : Int))) (hb : by_ * m ≤ 281474976710656) (hm63 : m ≤ maxLen) : Ac P n s (St w0 L) (.makeSlice t x y) ty (ι := Nat) (fun b => .slice (some ⟨b, 0, none⟩) m m) (fun b => St w0 (own e sz (some ⟨b, 0, none⟩) m m (List.replicate m z.cells.toList) :: L)) := by
  refine ⟨fun a w o ho ht' hf hm => ?_⟩
  obtain ⟨inf, h1, h2, h3, h4⟩ := ht.info
  have hfl := made_flatten (sz := sz) (z := z) ht.zsz ht.pos m
  have hr := run_make (P := P) w t e inf z ht.und h1 h2 k1 k2 (m : Int) (m : Int) (by omega) (Int.le_refl _) (by rw [h4]; omega) (by unfold maxLen at hm63; omega)
  simp only [Int.toNat_natCast, h3] at hr
  have hh : ∀ S : Nat → Prop, S w.heap.size → (own e sz (some ⟨w.heap.size, 0, none⟩) m m (List.replicate m z.cells.toList)).on S (w.alloc (.cells (madeCells z.cells (m * sz)) e)) := by
    intro S hS
    refine ⟨?_, by simp, ?_, fun g hg => ?_⟩
    · rw [← hfl]
      refine World.ownsRow_lit w (madeCells z.cells (m * sz)) m (Nat.zero_le _) hm63 (by simp [size_madeCells])
    · intro r hr
      rw [List.eq_of_mem_replicate hr]
      simpa using ht.zsz
    · simp [Value.ownBlock] at hg
      rw [← hg]
      exact hS
  refine ⟨w.heap.size, _, ?_, St.push hm (Chg.alloc _) (hh _ ⟨Nat.le_refl _, by simp⟩)⟩
  simp [execOp, ho, hf.ev hx, hf.ev hy, hr]
theorem T.make {x y : Operand} {t e sz by_ m : Nat} {z : Value} {k1 k2 : IntKind} (hd : Nat.blt d n.sz = true) [ht : SlT P t e sz by_ z] (hx : ev s x = some (.int k1 (m : Int))) (hy : ev s y = some (.int k2 (m : Int))) (hb : by_ * m ≤ 281474976710656) (hm63 : m ≤ maxLen)
    (k : ∀ b, T P ops Q rest n ((d, .slice (some ⟨b, 0, none⟩) m m) :: s) (St w0 (own e sz (some ⟨b, 0, none⟩) m m (List.replicate m z.cells.toList) :: L))) : T P ops Q (⟨some d, .makeSlice t x y, ty, pos, af, none⟩ :: rest) n s (St w0 L) :=
  T.act hd (Ac.make hx hy hb hm63) k

theorem Ac.makeCap {x y : Operand} {t e sz by_ m : Nat} {z : Value} {k1 k2 : IntKind} [ht : SlT P t e sz by_ z] (hx : ev s x = some (.int k1 0)) (hy : ev s y = some (.int k2 (m : Int))) (hb : by_ * m ≤ 281474976710656) (hm63 : m ≤ maxLen) : Ac P n s (St w0 L) (.makeSlice t x y) ty (ι := Nat) (fun b => .slice (some ⟨b, 0, none⟩) 0 m) (fun b => St w0 (own e sz (some ⟨b, 0, none⟩) 0 m [] :: L)) := by
  refine ⟨fun a w o ho ht' hf hm => ?_⟩
  obtain ⟨inf, h1, h2, h3, h4⟩ := ht.info
  have hr := run_make (P := P) w t e inf z ht.und h1 h2 k1 k2 0 (m : Int) (by omega) (by omega) (by rw [h4]; omega) (by unfold maxLen at hm63; omega)
  simp only [Int.toNat_natCast, h3] at hr
  have hh : ∀ S : Nat → Prop, S w.heap.size → (own e sz (some ⟨w.heap.size, 0, none⟩) 0 m []).on S (w.alloc (.cells (madeCells z.cells (m * sz)) e)) := by
    intro S hS
    refine ⟨World.ownsRow_made w (madeCells z.cells (m * sz)) m (Nat.zero_le _) hm63 (by simp [size_madeCells]), rfl, by simp, fun g hg => ?_⟩
    simp [Value.ownBlock] at hg
    rw [← hg]
    exact hS
  refine ⟨w.heap.size, _, ?_, St.push hm (Chg.alloc _) (hh _ ⟨Nat.le_refl _, by simp⟩)⟩
  simp [execOp, ho, hf.ev hx, hf.ev hy, hr]
theorem T.makeCap {x y : Operand} {t e sz by_ m : Nat} {z : Value} {k1 k2 : IntKind} (hd : Nat.blt d n.sz = true) [ht : SlT P t e sz by_ z] (hx : ev s x = some (.int k1 0)) (hy : ev s y = some (.int k2 (m : Int))) (hb : by_ * m ≤ 281474976710656) (hm63 : m ≤ maxLen)
    (k : ∀ b, T P ops Q rest n ((d, .slice (some ⟨b, 0, none⟩) 0 m) :: s) (St w0 (own e sz (some ⟨b, 0, none⟩) 0 m [] :: L))) : T P ops Q (⟨some d, .makeSlice t x y, ty, pos, af, none⟩ :: rest) n s (St w0 L) :=
  T.act hd (Ac.makeCap hx hy hb hm63) k

/-- the empty slice owns nothing -/
theorem St.own_nil {w : World} {e sz : Nat} (h : St w0 L w) : St w0 (own e sz none 0 0 [] :: L) w :=
  h.push Chg.refl ⟨World.ownsRow_nil w 0 e sz, rfl, by simp, fun g hg => by simp [Value.ownBlock] at hg⟩

theorem Ac.append {x y : Operand} {t e sz by_ m c m' c' : Nat} {z : Value} {A A' : Option Addr} {rows news : List (List Value)} {L0 : List HP} [ht : SlT P t e sz by_ z] (hx : ev s x = some (.slice A m c)) (hy : ev s y = some (.slice A' m' c'))
    (hdl : Del L (own e sz A m c rows) L0) (hn : ∀ w, St w0 L w → Arr sz (fun b => b < w.heap.size) w A' m' news) (h1 : ∀ w, St w0 L w → ∀ r ∈ news, oneB r = true) (h63 : m + m' ≤ maxLen) (hb : (m + m') * by_ ≤ 140737488355328) : Ac P n s (St w0 L) (.call { callee := .builtin .append, args := #[x, y], argTypes := #[t, t] }) ty (ι := Option Addr × Nat) (fun p => .slice p.1 (m + m') p.2) (fun p => St w0 (own e sz p.1 (m + m') p.2 (rows ++ news) :: L0)) := by
  refine ⟨fun a w o ho ht' hf hm => ?_⟩
  obtain ⟨inf, i1, i2, i3, i4⟩ := ht.info
  have harr := hn w hm
  have hone := h1 w hm
  obtain ⟨S1, g1, g2, g3⟩ := (hm.del hdl).upd (H' := own e sz A m c rows) Upd.here
  clear g3
  have key : ∃ v' w', (Builtin.append_ #[t, t] ty #[.slice A m c, .slice A' m' c']).run P w = .ok v' w' ∧ w'.ownsRow 0 e sz v' (m + m') (rows.flatten ++ news.flatten) ∧ w.grownBy w' (Value.slice A m c).ownBlock ∧
      (v'.ownBlock = (Value.slice A m c).ownBlock ∨ v'.ownBlock = some w.heap.size ∧ w.heap.size < w'.heap.size) := by
    have hnl : news.flatten.length = m' * sz := by rw [length_flatten harr.2.1, harr.1]
    rcases Nat.eq_zero_or_pos m' with h0 | hpos
    · subst h0
      have hn0 : news = [] := List.eq_nil_of_length_eq_zero harr.1
      subst hn0
      refine ⟨.slice A m c, w, ?_, by simpa using g2.1, World.grownBy.refl w _, .inl rfl⟩
      have hcap : m ≤ c := by
        rcases g2.1.2 with ⟨hv, h0⟩ | ⟨g, cap, cur, hv, _, _, hr1, _⟩
        · injection hv with _ _ hc; omega
        · injection hv with _ _ hc; omega
      have hfc : (Builtin.firstCells inf.size 0 (.slice A' 0 c')).run P w = .ok #[] w := by
        cases A' <;> simp [Builtin.firstCells, loadCells, loadCellsFrom]
      cases A <;> simp [Builtin.append_, run_underlying ht.und, sizeOf, typeInfo, i1, Builtin.lenOf, hcap, hfc, storeCells]
    · obtain ⟨ad, hA', _, hc⟩ := harr.2.2 hpos
      subst hA'
      obtain ⟨v', w', r1, r2, r3, r4, r5⟩ := run_append_own_at (P := P) w 0 t ty e inf z sz by_ ht.und i1 i2 i3 i4 ht.zsz ht.pos (.slice A m c) m rows.flatten g2.1 ad m' c' news.flatten hnl hc
        (fun u hu => by obtain ⟨r, hr, hu⟩ := List.mem_flatten.1 hu; exact oneB_spec (hone r hr) u hu) h63 hb (Nat.zero_le _)
      refine ⟨v', w', r1, r2, r3, ?_⟩
      rcases r5 with r5 | r5
      · exact .inl r5
      · refine .inr ⟨r5, ?_⟩
        exact (r2.lt _ r5).2
  obtain ⟨v', w', r1, r2, r3, r5⟩ := key
  have hval : ∃ A2 c2, v' = .slice A2 (m + m') c2 := by
    rcases r2.2 with ⟨hv, h0⟩ | ⟨g, cap, cur, hv, _⟩
    · exact ⟨none, 0, by rw [hv, h0]⟩
    · exact ⟨_, _, hv⟩
  obtain ⟨A2, c2, rfl⟩ := hval
  refine ⟨(A2, c2), w', ?_, ?_⟩
  · simp [execOp, ho, resolve, hf.ev hx, hf.ev hy, invoke, builtin, ht', r1]
  · obtain ⟨S1, g1, g2, g3⟩ := (hm.del hdl).upd (H' := own e sz A2 (m + m') c2 (rows ++ news)) Upd.here
    refine g3 (fun b => S1 b ∨ (w.heap.size ≤ b ∧ b < w'.heap.size)) w' (Chg.grown r3 (fun g hg => g2.2.2.2 g hg)) (fun b hb => hb) ?_
    refine ⟨by simpa using r2, by simp [g2.2.1, harr.1], ?_, fun g hg => ?_⟩
    · intro r hr
      rcases List.mem_append.1 hr with hr | hr
      · exact g2.2.2.1 r hr
      · exact harr.2.1 r hr
    · rcases r5 with r5 | ⟨r5, r6⟩
      · exact .inl (g2.2.2.2 g (r5 ▸ hg))
      · rw [r5] at hg
        injection hg with hg
        exact .inr ⟨by omega, by omega⟩
theorem T.append {x y : Operand} {t e sz by_ m c m' c' : Nat} {z : Value} {A A' : Option Addr} {rows news : List (List Value)} {L0 : List HP} (hd : Nat.blt d n.sz = true) [ht : SlT P t e sz by_ z] (hx : ev s x = some (.slice A m c)) (hy : ev s y = some (.slice A' m' c'))
    (hdl : Del L (own e sz A m c rows) L0) (hn : ∀ w, St w0 L w → Arr sz (fun b => b < w.heap.size) w A' m' news) (h1 : ∀ w, St w0 L w → ∀ r ∈ news, oneB r = true) (h63 : m + m' ≤ maxLen) (hb : (m + m') * by_ ≤ 140737488355328)
    (k : ∀ A2 c2, T P ops Q rest n ((d, .slice A2 (m + m') c2) :: s) (St w0 (own e sz A2 (m + m') c2 (rows ++ news) :: L0))) : T P ops Q (⟨some d, .call { callee := .builtin .append, args := #[x, y], argTypes := #[t, t] }, ty, pos, af, none⟩ :: rest) n s (St w0 L) :=
  T.act hd (Ac.append hx hy hdl hn h1 h63 hb) (fun p => k p.1 p.2)

/-! ### A literal slice -/
def evs (s : Sg) : List Operand → Option (List Value)
  | [] => some []
  | x :: l => match ev s x, evs s l with
    | some v, some vs => some (v :: vs)
    | _, _ => none
theorem evs_eq {a : Act} (hf : Fr n s a) : ∀ {l : List Operand} {vs : List Value}, evs s l = some vs → l.map a.eval = vs
  | [], vs, h => by simp [evs] at h; simp [h]
  | x :: l, vs, h => by
    simp only [evs] at h
    cases hv : ev s x with
    | none => simp [hv] at h
    | some v =>
      cases hl : evs s l with
      | none => simp [hv, hl] at h
      | some us =>
        simp [hv, hl] at h
        subst h
        simp [hf.ev hv, evs_eq hf hl]

/-- number the parts from i on -/
def numb {α : Type} : Nat → List α → List (Nat × α)
  | _, [] => []
  | i, x :: l => (i, x) :: numb (i + 1) l

theorem foldl_put (o : Nat) : ∀ (l : List Value) (k : Nat) (cs : Array Value), o + k + l.length ≤ cs.size →
    ((l.zipIdx k).foldl (fun (cs : Array Value) (x : Value × Nat) => cs.setIfInBounds (o + x.2) x.1) cs).toList = cs.toList.take (o + k) ++ l ++ cs.toList.drop (o + k + l.length)
  | [], k, cs, h => by simp
  | v :: l, k, cs, h => by
    simp only [List.length_cons] at h
    rw [List.zipIdx_cons, List.foldl_cons, foldl_put o l (k + 1) _ (by simp; omega)]
    have e := list_seg_step cs.toList (o + k) v l (by simp; omega)
    simp only [Array.toList_setIfInBounds, List.length_cons]
    rw [show o + (k + 1) = o + k + 1 by omega]
    exact e

theorem fill_all {sz : Nat} : ∀ (vs : List Value) (j : Nat) (cs : Array Value), (∀ v ∈ vs, v.cells.size = sz) → j * sz + vs.length * sz = cs.size →
    ∃ cs' : Array Value, Instr.fill (fun i => some (i * sz, sz)) cs (numb j vs) = some cs' ∧ cs'.toList = cs.toList.take (j * sz) ++ (vs.map (·.cells.toList)).flatten
  | [], j, cs, _, h => ⟨cs, rfl, by simp at h; rw [List.take_of_length_le (by simp; omega)]; simp⟩
  | v :: vs, j, cs, h1, h => by
    have hv := h1 v (by simp)
    simp only [List.length_cons, Nat.add_mul, Nat.one_mul] at h
    have hp := foldl_put (j * sz) v.cells.toList 0 cs (by simp [hv]; omega)
    obtain ⟨cs', h2, h3⟩ := fill_all vs (j + 1) (v.cells.zipIdx.foldl (fun cs (c, i) => cs.setIfInBounds (j * sz + i) c) cs) (fun u hu => h1 u (by simp [hu])) (by
      have hs : (v.cells.zipIdx.foldl (fun (cs : Array Value) (x : Value × Nat) => cs.setIfInBounds (j * sz + x.2) x.1) cs).size = cs.size := by
        rw [← Array.foldl_toList, ← Array.length_toList, Array.toList_zipIdx]
        rw [hp]
        simp [hv]
        omega
      rw [hs, Nat.add_mul]
      omega)
    refine ⟨cs', ?_, ?_⟩
    · simp only [numb, Instr.fill, hv]
      rw [if_neg (by simp; omega)]
      exact h2
    · rw [h3]
      rw [← Array.foldl_toList, Array.toList_zipIdx, hp]
      simp only [Nat.add_zero, Array.length_toList, hv, List.map_cons, List.flatten_cons]
      rw [List.take_append_of_le_length (by simp [hv, Nat.add_mul]; omega)]
      rw [List.take_of_length_le (by simp [hv, Nat.add_mul]; omega)]
      simp [List.append_assoc]

theorem Ac.lit {t e sz by_ : Nat} {z : Value} {ps : List (Nat × Operand)} {xs : List Operand} {vs : List Value} [ht : SlT P t e sz by_ z] (hps : ps = numb 0 xs) (hvs : evs s xs = some vs)
    (hsz : ∀ v ∈ vs, v.cells.size = sz) (hb : vs.length * sz ≤ 16777216) {m : Nat} (hm' : m = vs.length) {rows : List (List Value)} (hr : vs.map (·.cells.toList) = rows) : Ac P n s (St w0 L) (.buildSlice t m ps.toArray) ty (ι := Nat) (fun b => .slice (some ⟨b, 0, none⟩) m m) (fun b => St w0 (own e sz (some ⟨b, 0, none⟩) m m rows :: L)) := by
  subst hm'
  subst hr
  refine ⟨fun a w o ho ht' hf hm => ?_⟩
  obtain ⟨inf, i1, i2, i3, i4⟩ := ht.info
  have hev := evs_eq hf hvs
  have hmap : ∀ (xs : List Operand) (j : Nat), (numb j xs).map (fun p => (p.1, a.eval p.2)) = numb j (xs.map a.eval) := by
    intro xs
    induction xs with
    | nil => intro j; rfl
    | cons x l ih => intro j; simp [numb, ih]
  have hparts : (ps.map fun p => (p.1, a.eval p.2)) = numb 0 vs := by rw [hps, hmap, hev]
  have hrun : ∃ cs : Array Value, cs.toList = (vs.map (·.cells.toList)).flatten ∧ ∀ w, (Instr.buildSlice t vs.length (numb 0 vs).toArray).run P w = .ok (.slice (some ⟨w.heap.size, 0, none⟩) vs.length vs.length) (w.alloc (.cells cs e)) := by
    obtain ⟨cs', h2, h3⟩ := fill_all vs 0 ((Array.range (vs.length * sz)).map ((if vs.length * sz = 0 then #[] else z.cells)[· % (if vs.length * sz = 0 then #[] else z.cells).size]!)) hsz (by simp)
    refine ⟨cs', by simpa using h3, fun w => ?_⟩
    have hnb : ¬ 16777216 < vs.length * sz := by omega
    by_cases h0 : vs.length * sz = 0
    · have hv0 : vs.length = 0 := by
        rcases Nat.mul_eq_zero.1 h0 with h | h
        · exact h
        · have := ht.pos
          omega
      obtain rfl := List.eq_nil_of_length_eq_zero hv0
      simp [numb, Instr.fill] at h2
      subst h2
      simp [Instr.buildSlice, run_underlying ht.und, sizeOf, typeInfo, i1, numb, Instr.fill, newRow, alloc_def]
    · simp only [h0, if_false] at h2
      simp [Instr.buildSlice, run_underlying ht.und, sizeOf, typeInfo, i1, i3, hnb, h0, zeroValue, i2, newRow, alloc_def, h2]
  obtain ⟨cs, hcs, hrun⟩ := hrun
  have hfl : cs.size = vs.length * sz := by
    have := length_flatten (rows := vs.map (·.cells.toList)) (sz := sz) (by simpa using hsz)
    rw [← hcs] at this
    simpa using this
  have hh : ∀ S : Nat → Prop, S w.heap.size → (own e sz (some ⟨w.heap.size, 0, none⟩) vs.length vs.length (vs.map (·.cells.toList))).on S (w.alloc (.cells cs e)) := by
    intro S hS
    refine ⟨?_, by simp, by simpa using hsz, fun g hg => ?_⟩
    · rw [← hcs]
      refine World.ownsRow_lit w cs vs.length (Nat.zero_le _) ?_ hfl
      have h1 : vs.length ≤ vs.length * sz := Nat.le_mul_of_pos_right _ ht.pos
      unfold maxLen
      omega
    · simp [Value.ownBlock] at hg
      rw [← hg]
      exact hS
  refine ⟨w.heap.size, _, ?_, St.push hm (Chg.alloc _) (hh _ ⟨Nat.le_refl _, by simp⟩)⟩
  have := hrun w
  rw [← hparts] at this
  simp only [execOp, ho]
  simp at this ⊢
  simp [this]
theorem T.lit {t e sz by_ : Nat} {z : Value} {ps : List (Nat × Operand)} {xs : List Operand} {vs : List Value} (hd : Nat.blt d n.sz = true) [ht : SlT P t e sz by_ z] (hps : ps = numb 0 xs) (hvs : evs s xs = some vs)
    (hsz : ∀ v ∈ vs, v.cells.size = sz) (hb : vs.length * sz ≤ 16777216) {m : Nat} (hm' : m = vs.length) {rows : List (List Value)} (hr : vs.map (·.cells.toList) = rows)
    (k : ∀ b, T P ops Q rest n ((d, .slice (some ⟨b, 0, none⟩) m m) :: s) (St w0 (own e sz (some ⟨b, 0, none⟩) m m rows :: L))) : T P ops Q (⟨some d, .buildSlice t m ps.toArray, ty, pos, af, none⟩ :: rest) n s (St w0 L) :=
  T.act hd (Ac.lit hps hvs hsz hb hm' hr) k
theorem Ac.lit1 {t e sz by_ : Nat} {z v : Value} {x : Operand} [ht : SlT P t e sz by_ z] (hx : ev s x = some v) {r : List Value} (hr : v.cells.toList = r) (hz : r.length = sz) (hb : Nat.ble sz 16777216 = true) :
    Ac P n s (St w0 L) (.buildSlice t 1 #[(0, x)]) ty (ι := Nat) (fun b => .slice (some ⟨b, 0, none⟩) 1 1) (fun b => St w0 (own e sz (some ⟨b, 0, none⟩) 1 1 [r] :: L)) := by
  have hb := Nat.le_of_ble_eq_true hb
  refine Ac.lit (ps := [(0, x)]) (xs := [x]) (vs := [v]) rfl (by simp [evs, hx]) ?_ (by simpa using hb) rfl (by simp [hr])
  intro u hu
  simp at hu
  subst hu
  rw [← hz, ← hr, Array.length_toList]
theorem T.lit1 {t e sz by_ : Nat} {z v : Value} {x : Operand} (hd : Nat.blt d n.sz = true) [ht : SlT P t e sz by_ z] (hx : ev s x = some v) {r : List Value} (hr : v.cells.toList = r) (hz : r.length = sz) (hb : Nat.ble sz 16777216 = true)
    (k : ∀ b, T P ops Q rest n ((d, .slice (some ⟨b, 0, none⟩) 1 1) :: s) (St w0 (own e sz (some ⟨b, 0, none⟩) 1 1 [r] :: L))) : T P ops Q (⟨some d, .buildSlice t 1 #[(0, x)], ty, pos, af, none⟩ :: rest) n s (St w0 L) :=
  T.act hd (Ac.lit1 hx hr hz hb) k
end
end Go.Sl
