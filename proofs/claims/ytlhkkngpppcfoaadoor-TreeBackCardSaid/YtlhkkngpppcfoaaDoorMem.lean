/-
  Owned pieces of memory: a list of assertions, each on blocks of its own.
-/
import Derived.Test.YtlhkkngpppcfoaaDoorSl
import Derived.Maps.AppendAt
set_option linter.all false
namespace Go.Sl
open Go.RowKit

structure HP where
  on : (Nat → Prop) → World → Prop
  mono : ∀ {S S' : Nat → Prop} {w : World}, (∀ b, S b → S' b) → on S w → on S' w
  loc : ∀ {S : Nat → Prop} {w w' : World}, (∀ b, S b → w'.heap[b]? = w.heap[b]?) → on S w → on S w'

def Sep : List HP → (Nat → Prop) → World → Prop
  | [], _, _ => True
  | H :: L, S, w => ∃ S1 : Nat → Prop, (∀ b, S1 b → S b) ∧ H.on S1 w ∧ Sep L (fun b => S b ∧ ¬ S1 b) w

theorem Sep.keep : ∀ {L : List HP} {S S' : Nat → Prop} {w w' : World}, (∀ b, S b → S' b) → (∀ b, S b → w'.heap[b]? = w.heap[b]?) → Sep L S w → Sep L S' w'
  | [], _, _, _, _, _, _, _ => trivial
  | H :: _, _, _, _, _, hs, hw, ⟨S1, h1, h2, h3⟩ =>
    ⟨S1, fun b hb => hs b (h1 b hb), H.loc (fun b hb => hw b (h1 b hb)) h2,
      h3.keep (fun b hb => ⟨hs b hb.1, hb.2⟩) (fun b hb => hw b hb.1)⟩

inductive Upd : List HP → HP → HP → List HP → Prop where
  | here {H H' : HP} {L : List HP} : Upd (H :: L) H H' (H' :: L)
  | there {H H' K : HP} {L L' : List HP} : Upd L H H' L' → Upd (K :: L) H H' (K :: L')

inductive At : List HP → HP → Prop where
  | here {H : HP} {L : List HP} : At (H :: L) H
  | there {H K : HP} {L : List HP} : At L H → At (K :: L) H

theorem Upd.at_ {L L' : List HP} {H H' : HP} (h : Upd L H H' L') : At L H := by
  induction h with
  | here => exact .here
  | there _ ih => exact .there ih
theorem At.upd {L : List HP} {H : HP} (h : At L H) : Upd L H H L := by
  induction h with
  | here => exact .here
  | there _ ih => exact .there ih

theorem Sep.upd {L L' : List HP} {H H' : HP} (hu : Upd L H H' L') : ∀ {S : Nat → Prop} {w : World}, Sep L S w →
    ∃ S1 : Nat → Prop, (∀ b, S1 b → S b) ∧ H.on S1 w ∧ ∀ (S' S1' : Nat → Prop) (w' : World), (∀ b, S b → S' b) → (∀ b, S1' b → S' b) → (∀ b, S1' b → S b → S1 b) →
      (∀ b, S b → ¬ S1 b → w'.heap[b]? = w.heap[b]?) → H'.on S1' w' → Sep L' S' w' := by
  induction hu with
  | here =>
    rintro S w ⟨S1, h1, h2, h3⟩
    refine ⟨S1, h1, h2, fun S' S1' w' a b c d e => ⟨S1', b, e, h3.keep (fun x hx => ⟨a x hx.1, fun hx1 => hx.2 (c x hx1 hx.1)⟩) (fun x hx => d x hx.1 hx.2)⟩⟩
  | there _ ih =>
    rintro S w ⟨S0, h1, h2, h3⟩
    obtain ⟨S1, g1, g2, g3⟩ := ih h3
    refine ⟨S1, fun b hb => (g1 b hb).1, g2, fun S' S1' w' a b c d e => ⟨S0, fun x hx => a x (h1 x hx), ?_, ?_⟩⟩
    · exact HP.loc _ (fun x hx => d x (h1 x hx) (fun hx1 => (g1 x hx1).2 hx)) h2
    · refine g3 _ S1' w' (fun x hx => ⟨a x hx.1, hx.2⟩) (fun x hx => ⟨b x hx, fun hx0 => ?_⟩) (fun x hx hx' => c x hx hx'.1) (fun x hx hx' => d x hx.1 hx') e
      exact (g1 x (c x hx (h1 x hx0))).2 hx0

theorem Sep.at_ {L : List HP} {H : HP} (h : At L H) {S : Nat → Prop} {w : World} (hs : Sep L S w) : ∃ S1 : Nat → Prop, (∀ b, S1 b → S b) ∧ H.on S1 w :=
  let ⟨S1, h1, h2, _⟩ := hs.upd h.upd
  ⟨S1, h1, h2⟩

/-- two pieces at once, apart from each other -/
theorem Sep.drop : ∀ {L : List HP} (k : Nat) {S : Nat → Prop} {w : World}, Sep L S w → Sep (L.drop k) S w
  | _, 0, _, _, h => h
  | [], _ + 1, _, _, h => h
  | _ :: _, k + 1, _, _, ⟨_, _, _, h3⟩ => (Sep.drop k h3).keep (fun _ hb => hb.1) (fun _ _ => rfl)

theorem Sep.del {L L' : List HP} {H H' : HP} (hu : Upd L H H' L') {S : Nat → Prop} {w : World} (h : Sep L S w) (hh : H'.on (fun _ => False) w) : Sep L' S w := by
  obtain ⟨S1, h1, h2, h3⟩ := h.upd hu
  exact h3 S (fun _ => False) w (fun _ h => h) (fun _ h => h.elim) (fun _ h => h.elim) (fun _ _ _ => rfl) hh

theorem Sep.swap {H K : HP} {L : List HP} {S : Nat → Prop} {w : World} (h : Sep (H :: K :: L) S w) : Sep (K :: H :: L) S w := by
  obtain ⟨S1, h1, h2, S2, g1, g2, g3⟩ := h
  refine ⟨S2, fun b hb => (g1 b hb).1, g2, S1, fun b hb => ⟨h1 b hb, fun hb2 => (g1 b hb2).2 hb⟩, h2, g3.keep (fun b hb => ⟨⟨hb.1.1, hb.2⟩, hb.1.2⟩) (fun _ _ => rfl)⟩

/-- the world's change: of the old blocks only those in S1 -/
structure Chg (w w' : World) (S1 : Nat → Prop) : Prop where
  os : w'.os = w.os
  tape : w'.tape = w.tape
  output : w'.output = w.output
  size : w.heap.size ≤ w'.heap.size
  block : ∀ b, b < w.heap.size → ¬ S1 b → w'.heap[b]? = w.heap[b]?

structure St (w0 : World) (L : List HP) (w : World) : Prop where
  below : Below w0.heap.size w0 w
  sep : Sep L (fun b => w0.heap.size ≤ b ∧ b < w.heap.size) w

section
variable {w0 w w' : World} {L L' : List HP} {H H' : HP}

theorem St.start (w0 : World) : St w0 [] w0 := ⟨Below.refl _ _, trivial⟩

theorem St.upd (hu : Upd L H H' L') (h : St w0 L w) : ∃ S1 : Nat → Prop, (∀ b, S1 b → w0.heap.size ≤ b ∧ b < w.heap.size) ∧ H.on S1 w ∧
    ∀ (S1' : Nat → Prop) (w' : World), Chg w w' S1 → (∀ b, S1' b → S1 b ∨ (w.heap.size ≤ b ∧ b < w'.heap.size)) → H'.on S1' w' → St w0 L' w' := by
  obtain ⟨S1, h1, h2, h3⟩ := h.sep.upd hu
  refine ⟨S1, h1, h2, fun S1' w' hc hs hh => ⟨?_, ?_⟩⟩
  · refine ⟨hc.os.trans h.below.os, hc.tape.trans h.below.tape, hc.output.trans h.below.output, Nat.le_trans h.below.size hc.size, fun k hk => ?_⟩
    rw [hc.block k (Nat.lt_of_lt_of_le hk h.below.size) (fun hb => by have := (h1 k hb).1; omega)]
    exact h.below.block k hk
  · refine h3 _ S1' w' (fun b hb => ⟨hb.1, Nat.lt_of_lt_of_le hb.2 hc.size⟩) (fun b hb => ?_) (fun b hb hb' => ?_) (fun b hb hb' => hc.block b hb.2 hb') hh
    · rcases hs b hb with hb | hb
      · exact ⟨(h1 b hb).1, Nat.lt_of_lt_of_le (h1 b hb).2 hc.size⟩
      · exact ⟨Nat.le_trans h.below.size hb.1, hb.2⟩
    · rcases hs b hb with hb | hb
      · exact hb
      · have := hb'.2
        omega

theorem St.push (h : St w0 L w) (hc : Chg w w' (fun _ => False)) (hh : H.on (fun b => w.heap.size ≤ b ∧ b < w'.heap.size) w') : St w0 (H :: L) w' := by
  refine ⟨⟨hc.os.trans h.below.os, hc.tape.trans h.below.tape, hc.output.trans h.below.output, Nat.le_trans h.below.size hc.size, fun k hk => ?_⟩, ?_⟩
  · rw [hc.block k (Nat.lt_of_lt_of_le hk h.below.size) (fun hb => hb)]
    exact h.below.block k hk
  · refine ⟨fun b => w.heap.size ≤ b ∧ b < w'.heap.size, fun b hb => ⟨Nat.le_trans h.below.size hb.1, hb.2⟩, hh, ?_⟩
    refine h.sep.keep (fun b hb => ⟨⟨hb.1, Nat.lt_of_lt_of_le hb.2 hc.size⟩, fun hb' => ?_⟩) (fun b hb => hc.block b hb.2 (fun hb => hb))
    have := hb.2
    omega

theorem St.grow (h : St w0 L w) (hc : Chg w w' (fun _ => False)) : St w0 L w' := by
  refine ⟨⟨hc.os.trans h.below.os, hc.tape.trans h.below.tape, hc.output.trans h.below.output, Nat.le_trans h.below.size hc.size, fun k hk => ?_⟩, ?_⟩
  · rw [hc.block k (Nat.lt_of_lt_of_le hk h.below.size) (fun hb => hb)]
    exact h.below.block k hk
  · exact h.sep.keep (fun b hb => ⟨hb.1, Nat.lt_of_lt_of_le hb.2 hc.size⟩) (fun b hb => hc.block b hb.2 (fun hb => hb))

theorem St.drop (k : Nat) (h : St w0 L w) : St w0 (L.drop k) w := ⟨h.below, h.sep.drop k⟩
theorem St.tail (h : St w0 (H :: L) w) : St w0 L w := h.drop 1
theorem St.swap {K : HP} (h : St w0 (H :: K :: L) w) : St w0 (K :: H :: L) w := ⟨h.below, h.sep.swap⟩
theorem St.at_ (ha : At L H) (h : St w0 L w) : ∃ S1 : Nat → Prop, (∀ b, S1 b → w0.heap.size ≤ b ∧ b < w.heap.size) ∧ H.on S1 w := h.sep.at_ ha
theorem St.at_all (ha : At L H) (h : St w0 L w) : H.on (fun b => b < w.heap.size) w :=
  let ⟨_, h1, h2⟩ := h.at_ ha
  H.mono (fun b hb => (h1 b hb).2) h2
/-- a piece seen otherwise -/
theorem St.map (hu : Upd L H H' L') (hi : ∀ S w, H.on S w → H'.on S w) (h : St w0 L w) : St w0 L' w := by
  obtain ⟨S1, h1, h2, h3⟩ := h.upd hu
  exact h3 S1 w ⟨rfl, rfl, rfl, Nat.le_refl _, fun _ _ _ => rfl⟩ (fun b hb => .inl hb) (hi _ _ h2)

theorem Chg.of_below (h : Below w.heap.size w w') : Chg w w' (fun _ => False) := ⟨h.os, h.tape, h.output, h.size, fun b hb _ => h.block b hb⟩
theorem Chg.drew : Chg w w.drew (fun _ => False) := ⟨rfl, rfl, rfl, Nat.le_refl _, fun _ _ _ => rfl⟩
theorem St.drew (h : St w0 L w) : St w0 L w.drew := h.grow Chg.drew
theorem Chg.alloc (o : Obj) : Chg w (w.alloc o) (fun _ => False) := ⟨rfl, rfl, rfl, by simp, fun b hb _ => Below.heap_alloc w o b hb⟩
theorem Chg.grown {row : Option Nat} {S1 : Nat → Prop} (h : w.grownBy w' row) (hr : ∀ g, row = some g → S1 g) : Chg w w' S1 :=
  ⟨h.os, h.tape, h.output, h.size, fun b hb hn => h.block b hb (fun e => hn (hr b e.symm))⟩
end

/-! ### Atoms -/
/-- a whole block -/
def blk (b : Nat) (cs : List Value) (t : TypeId) : HP where
  on S w := S b ∧ w.heap[b]? = some (.cells cs.toArray t (0, 0))
  mono h hh := ⟨h _ hh.1, hh.2⟩
  loc h hh := ⟨hh.1, (h _ hh.1).trans hh.2⟩

/-- a reading: n rows of sz cells each from address A on -/
def Arr (sz : Nat) (S : Nat → Prop) (w : World) (A : Option Addr) (n : Nat) (rows : List (List Value)) : Prop :=
  rows.length = n ∧ (∀ r ∈ rows, r.length = sz) ∧ (0 < n → ∃ a, A = some a ∧ S a.block ∧ ∀ j v, rows.flatten[j]? = some v → w.cell? (a.add j) = some v)

theorem add_block (a : Addr) (j : Nat) : (a.add j).block = a.block := by unfold Addr.add; split <;> rfl
theorem add_add (a : Addr) (i j : Nat) : (a.add i).add j = a.add (i + j) := by
  unfold Addr.add
  by_cases hi : i = 0 <;> by_cases hj : j = 0 <;> simp [hi, hj, Nat.add_assoc]
theorem add_lit (b o j : Nat) : (⟨b, o, none⟩ : Addr).add j = ⟨b, o + j, none⟩ := by unfold Addr.add; split <;> simp_all

theorem Arr.mono {sz n : Nat} {S S' : Nat → Prop} {w : World} {A : Option Addr} {rows : List (List Value)} (h : ∀ b, S b → S' b) (hh : Arr sz S w A n rows) : Arr sz S' w A n rows :=
  ⟨hh.1, hh.2.1, fun hn => let ⟨a, h1, h2, h3⟩ := hh.2.2 hn; ⟨a, h1, h _ h2, h3⟩⟩
theorem Arr.loc {sz n : Nat} {S : Nat → Prop} {w w' : World} {A : Option Addr} {rows : List (List Value)} (h : ∀ b, S b → w'.heap[b]? = w.heap[b]?) (hh : Arr sz S w A n rows) : Arr sz S w' A n rows :=
  ⟨hh.1, hh.2.1, fun hn => let ⟨a, h1, h2, h3⟩ := hh.2.2 hn; ⟨a, h1, h2, fun j v hj =>
    (World.cell?_of_block (w := w) (w' := w') (a := a.add j) (by rw [add_block]; exact h _ h2)).trans (h3 j v hj)⟩⟩
theorem Arr.nil {sz : Nat} {S : Nat → Prop} {w : World} {A : Option Addr} : Arr sz S w A 0 [] := ⟨rfl, by simp, fun h => absurd h (by omega)⟩

theorem flatten_at {sz : Nat} : ∀ {rows : List (List Value)} (_ : ∀ r ∈ rows, r.length = sz) {i j : Nat} {r : List Value}, rows[i]? = some r → j < sz → rows.flatten[i * sz + j]? = r[j]?
  | [], _, i, j, r, hi, _ => by simp at hi
  | x :: l, h, 0, j, r, hi, hj => by
    simp at hi
    subst hi
    have hx := h x (by simp)
    simp [List.flatten_cons, List.getElem?_append, hx, hj]
  | x :: l, h, i + 1, j, r, hi, hj => by
    simp at hi
    have hx := h x (by simp)
    have := flatten_at (rows := l) (fun r hr => h r (by simp [hr])) hi hj
    rw [List.flatten_cons, List.getElem?_append_right (by rw [hx, Nat.add_mul]; omega), ← this]
    congr 1
    rw [hx, Nat.add_mul]
    omega
theorem length_flatten {sz : Nat} : ∀ {rows : List (List Value)} (_ : ∀ r ∈ rows, r.length = sz), rows.flatten.length = rows.length * sz
  | [], _ => by simp
  | x :: l, h => by
    rw [List.flatten_cons, List.length_append, h x (by simp), length_flatten (rows := l) (fun r hr => h r (by simp [hr])), List.length_cons, Nat.add_mul]
    omega

/-- the cell of one element -/
theorem Arr.cell {sz n : Nat} {S : Nat → Prop} {w : World} {A : Option Addr} {rows : List (List Value)} (h : Arr sz S w A n rows) {i j : Nat} {r : List Value} {v : Value}
    (hi : rows[i]? = some r) (hj : r[j]? = some v) : w.cell? ((A.getD default).add (i * sz + j)) = some v := by
  have hin : i < n := by rw [← h.1]; exact (List.getElem?_eq_some_iff.1 hi).1
  obtain ⟨a, rfl, _, hc⟩ := h.2.2 (by omega)
  have hr := h.2.1 r (List.mem_of_getElem? hi)
  have hjs : j < sz := by rw [← hr]; exact (List.getElem?_eq_some_iff.1 hj).1
  exact hc _ _ ((flatten_at h.2.1 hi hjs).trans hj)
theorem Arr.some_ {sz n : Nat} {S : Nat → Prop} {w : World} {A : Option Addr} {rows : List (List Value)} (h : Arr sz S w A n rows) (hn : 0 < n) : A = some (A.getD default) := by
  obtain ⟨a, rfl, _⟩ := h.2.2 hn
  rfl

/-- a slice of the call's own: it may be appended to, and stored into -/
def own (e sz : Nat) (A : Option Addr) (n c : Nat) (rows : List (List Value)) : HP where
  on S w := w.ownsRow 0 e sz (.slice A n c) n rows.flatten ∧ rows.length = n ∧ (∀ r ∈ rows, r.length = sz) ∧ (∀ g, (Value.slice A n c).ownBlock = some g → S g)
  mono h hh := ⟨hh.1, hh.2.1, hh.2.2.1, fun g hg => h _ (hh.2.2.2 g hg)⟩
  loc h hh := by
    refine ⟨⟨hh.1.1, ?_⟩, hh.2⟩
    rcases hh.1.2 with h2 | ⟨g, cap, cur, hv, hg, hw, hr⟩
    · exact .inl h2
    · refine .inr ⟨g, cap, cur, hv, hg, ?_, hr⟩
      rw [h g (hh.2.2.2 g (by rw [hv]; rfl))]
      exact hw

theorem own.arr {e sz n c : Nat} {A : Option Addr} {rows : List (List Value)} {S : Nat → Prop} {w : World} (h : (own e sz A n c rows).on S w) : Arr sz S w A n rows := by
  obtain ⟨h1, h2, h3, h4⟩ := h
  refine ⟨h2, h3, fun hn => ?_⟩
  rcases h1.2 with ⟨hv, h0⟩ | ⟨g, cap, cur, hv, hg, hw, hr⟩
  · omega
  · injection hv with hA
    subst hA
    exact ⟨_, rfl, h4 g rfl, h1.cells (g := g) rfl⟩

/-- any local reading -/
def rd (R : (Nat → Prop) → World → Prop) (hm : ∀ {S S' : Nat → Prop} {w : World}, (∀ b, S b → S' b) → R S w → R S' w)
    (hl : ∀ {S : Nat → Prop} {w w' : World}, (∀ b, S b → w'.heap[b]? = w.heap[b]?) → R S w → R S w') : HP := ⟨R, hm, hl⟩

/-- rows of cells that are only read -/
def arr (sz : Nat) (A : Option Addr) (n : Nat) (rows : List (List Value)) : HP := ⟨fun S w => Arr sz S w A n rows, Arr.mono, Arr.loc⟩

section
variable {w0 w : World} {L L' : List HP}
theorem St.blk_heap {b t : Nat} {cs : List Value} (h : St w0 L w) (ha : At L (blk b cs t)) : w.heap[b]? = some (.cells cs.toArray t (0, 0)) := (h.at_all ha).2
theorem St.blk_cell {b t : Nat} {cs : List Value} (h : St w0 L w) (ha : At L (blk b cs t)) {i : Nat} {v : Value} (hi : cs[i]? = some v) : w.cell? ⟨b, i, none⟩ = some v := by
  rw [cell_of_row w b i _ _ _ (h.blk_heap ha)]
  simpa using hi
theorem St.own_arr {e sz n c : Nat} {A : Option Addr} {rows : List (List Value)} (h : St w0 L w) (ha : At L (own e sz A n c rows)) : Arr sz (fun b => b < w.heap.size) w A n rows :=
  own.arr (h.at_all ha)
theorem St.arr_arr {sz n : Nat} {A : Option Addr} {rows : List (List Value)} (h : St w0 L w) (ha : At L (arr sz A n rows)) : Arr sz (fun b => b < w.heap.size) w A n rows :=
  h.at_all ha
/-- what was read before the call reads the same -/
theorem St.old_arr {sz n : Nat} {A : Option Addr} {rows : List (List Value)} (h : St w0 L w) (ha : Arr sz (fun b => b < w0.heap.size) w0 A n rows) : Arr sz (fun b => b < w.heap.size) w A n rows :=
  (ha.loc (w' := w) (fun b hb => h.below.block b hb)).mono (fun _ hb => Nat.lt_of_lt_of_le hb h.below.size)
theorem St.old_cell {p : Addr} {v : Value} (h : St w0 L w) (hp : w0.cell? p = some v) : w.cell? p = some v := by
  rw [h.below.cell (World.block_lt_of_cell? w0 p hp)]
  exact hp
end
end Go.Sl
