/-
  Drawings: pure, in memory, and walked: points, strokes, leaf, Shift, put, seq, choice, rep, framed.
-/
import Derived.Test.YtalnmednhhimhaaDoorFoD
import Derived.Test.YtalnmednhhimhaaDoorFlo
import Derived.Test.YtalnmednhhimhaaDoorHelp
import Derived.Test.YtalnmednhhimhaaDoorOpen
import Derived.Test.YtalnmednhhimhaaDoorGen
set_option linter.all false
/- Drawings by whole numbers: what each kind of node draws, and that all drawn is within. -/
namespace Go.Bonsai
open Go
abbrev Pt := Int × Int
structure Drw where
  w : Int
  up : Int
  dn : Int
  ss : List (List Pt)
  ls : List (Pt × ByteArray)
def Drw.zero : Drw := ⟨0, 0, 0, [], []⟩
def mvP (b p : Pt) : Pt := (p.1 + b.1, p.2 + b.2)
def mvS (b : Pt) (ss : List (List Pt)) : List (List Pt) := ss.map fun s => s.map (mvP b)
def mvL (b : Pt) (ls : List (Pt × ByteArray)) : List (Pt × ByteArray) := ls.map fun l => (mvP b l.1, l.2)
def Drw.shift (b : Pt) (d : Drw) : Drw := ⟨d.w, d.up, d.dn, mvS b d.ss, mvL b d.ls⟩
def boxP (r t b : Int) : List Pt := [(1, t), (r, t), (r, b), (1, b), (1, t)]
def emptyD : Drw := ⟨2, 0, 0, [[(0, 0), (2, 0)]], []⟩
def leafD (s : ByteArray) : Drw := ⟨s.size + 4, 1, 1, [[(0, 0), (1, 0)], boxP (s.size + 3) (-1) 1, [((s.size : Int) + 3, 0), ((s.size : Int) + 4, 0)]], [((2, 0), s)]⟩
/-- a further kid of a Seq -/
def seqD1 (d k : Drw) : Drw := ⟨d.w + 2 + k.w, max d.up k.up, max d.dn k.dn, d.ss ++ [[(d.w, 0), (d.w + 2, 0)]] ++ mvS (d.w + 2, 0) k.ss, d.ls ++ mvL (d.w + 2, 0) k.ls⟩
def seqD0 (k : Drw) : Drw := ⟨0 + k.w, max 0 k.up, max 0 k.dn, mvS (0, 0) k.ss, mvL (0, 0) k.ls⟩
def seqD : List Drw → Drw
  | [] => .zero
  | k :: l => l.foldl seqD1 (seqD0 k)
def widest (l : List Drw) : Int := l.foldl (fun m k => max m k.w) 0
/-- the first kid of a Choice, and a further one -/
def choD0 (wd : Int) (k : Drw) : Drw := ⟨wd + 4, k.up, k.dn, [[(0, 0), (2, 0)]] ++ mvS (2, 0) k.ss ++ [[(2 + k.w, 0), (wd + 4, 0)]], mvL (2, 0) k.ls⟩
def choD1 (wd : Int) (d k : Drw) : Drw :=
  ⟨d.w, d.up, d.dn + 1 + k.up + k.dn, d.ss ++ [[(1, 0), (1, d.dn + 1 + k.up), (2, d.dn + 1 + k.up)]] ++ mvS (2, d.dn + 1 + k.up) k.ss ++ [[(2 + k.w, d.dn + 1 + k.up), (wd + 3, d.dn + 1 + k.up), (wd + 3, 0)]], d.ls ++ mvL (2, d.dn + 1 + k.up) k.ls⟩
def choDw (wd : Int) : List Drw → Drw
  | [] => ⟨wd + 4, 0, 0, [], []⟩
  | k :: l => l.foldl (choD1 wd) (choD0 wd k)
def choD (l : List Drw) : Drw := choDw (widest l) l
def wideD (s : ByteArray) (k : Drw) : Int := max k.w s.size
def throughD (y : Int) (s : ByteArray) (k : Drw) : Drw := ⟨wideD s k + 4, k.up + 2, k.dn, [[(0, 0), (2, 0)]] ++ mvS (2, 0) k.ss ++ [[(2 + k.w, 0), (wideD s k + 4, 0)]], [((2, y), s)] ++ mvL (2, 0) k.ls⟩
def framedD (s : ByteArray) (k : Drw) : Drw := { throughD (-(k.up + 1)) s k with dn := k.dn + 1, ss := (throughD (-(k.up + 1)) s k).ss ++ [boxP (wideD s k + 3) (-(k.up + 2)) (k.dn + 1)] }
def repS1 (n : Nod) (wd : Int) (k : Drw) : List (List Pt) := if n.max = -1 ∨ 1 < n.max then [[(wd + 3, 0), (wd + 3, -(k.up + 1)), (1, -(k.up + 1)), (1, 0)]] else []
def repS2 (n : Nod) (wd : Int) (k : Drw) : List (List Pt) := if n.min = 0 then [[(1, 0), (1, k.dn + 1), (wd + 3, k.dn + 1), (wd + 3, 0)]] else []
def repD (n : Nod) (s : ByteArray) (k : Drw) : Drw :=
  { throughD (-(k.up + 1) - 1) s k with dn := if n.min = 0 then k.dn + 1 else k.dn, ss := (throughD (-(k.up + 1) - 1) s k).ss ++ repS1 n (wideD s k) k ++ repS2 n (wideD s k) k }

/-! ### within -/
/-- each next point is another one, straight to the right or left, up or down -/
def strt : List Pt → Prop
  | a :: b :: r => ¬ ((a.1 = b.1) ↔ (a.2 = b.2)) ∧ strt (b :: r)
  | _ => True
def inP (w u d : Int) (p : Pt) : Prop := 0 ≤ p.1 ∧ p.1 ≤ w ∧ -u ≤ p.2 ∧ p.2 ≤ d
def inS (w u d : Int) (ss : List (List Pt)) : Prop := ∀ s ∈ ss, 2 ≤ s.length ∧ strt s ∧ ∀ p ∈ s, inP w u d p
def inL (w u d : Int) (ls : List (Pt × ByteArray)) : Prop := ∀ l ∈ ls, 0 ≤ l.1.1 ∧ l.1.1 + l.2.size ≤ w ∧ -u ≤ l.1.2 ∧ l.1.2 ≤ d
structure Drw.In (d : Drw) : Prop where
  w : 0 ≤ d.w
  up : 0 ≤ d.up
  dn : 0 ≤ d.dn
  ss : inS d.w d.up d.dn d.ss
  ls : inL d.w d.up d.dn d.ls
theorem strt_mv (b : Pt) : ∀ s : List Pt, strt s → strt (s.map (mvP b))
  | [], _ => trivial
  | [_], _ => trivial
  | p :: q :: r, h => ⟨by
      have h1 := h.1
      simp only [mvP]
      intro hh
      apply h1
      constructor
      · intro e
        have := hh.1 (by omega)
        omega
      · intro e
        have := hh.2 (by omega)
        omega, strt_mv b (q :: r) h.2⟩
theorem inS_mv {w u d w' u' d' : Int} {b : Pt} {ss : List (List Pt)} (h : inS w u d ss) (h1 : 0 ≤ b.1) (h2 : b.1 + w ≤ w') (h3 : -u' ≤ b.2 - u) (h4 : b.2 + d ≤ d') : inS w' u' d' (mvS b ss) := by
  intro s hs
  obtain ⟨t, ht, rfl⟩ := List.mem_map.1 hs
  obtain ⟨g1, g2, g3⟩ := h t ht
  refine ⟨by simpa using g1, strt_mv b t g2, fun p hp => ?_⟩
  obtain ⟨q, hq, rfl⟩ := List.mem_map.1 hp
  obtain ⟨i1, i2, i3, i4⟩ := g3 q hq
  simp only [inP, mvP]
  omega
theorem inL_mv {w u d w' u' d' : Int} {b : Pt} {ls : List (Pt × ByteArray)} (h : inL w u d ls) (h1 : 0 ≤ b.1) (h2 : b.1 + w ≤ w') (h3 : -u' ≤ b.2 - u) (h4 : b.2 + d ≤ d') : inL w' u' d' (mvL b ls) := by
  intro l hl
  obtain ⟨t, ht, rfl⟩ := List.mem_map.1 hl
  obtain ⟨i1, i2, i3, i4⟩ := h t ht
  simp only [mvP]
  omega
theorem inS_more {w u d w' u' d' : Int} {ss : List (List Pt)} (h : inS w u d ss) (h1 : w ≤ w') (h2 : u ≤ u') (h3 : d ≤ d') : inS w' u' d' ss := fun s hs =>
  ⟨(h s hs).1, (h s hs).2.1, fun p hp => by obtain ⟨a, b, c, e⟩ := (h s hs).2.2 p hp; simp only [inP]; omega⟩
theorem inL_more {w u d w' u' d' : Int} {ls : List (Pt × ByteArray)} (h : inL w u d ls) (h1 : w ≤ w') (h2 : u ≤ u') (h3 : d ≤ d') : inL w' u' d' ls := fun l hl => by
  obtain ⟨a, b, c, e⟩ := h l hl; omega
theorem inS_app {w u d : Int} {a b : List (List Pt)} (h1 : inS w u d a) (h2 : inS w u d b) : inS w u d (a ++ b) := fun s hs => by
  rcases List.mem_append.1 hs with h | h
  · exact h1 s h
  · exact h2 s h
theorem inL_app {w u d : Int} {a b : List (Pt × ByteArray)} (h1 : inL w u d a) (h2 : inL w u d b) : inL w u d (a ++ b) := fun s hs => by
  rcases List.mem_append.1 hs with h | h
  · exact h1 s h
  · exact h2 s h
theorem inS_nil {w u d : Int} : inS w u d [] := fun s hs => by cases hs
theorem inL_nil {w u d : Int} : inL w u d [] := fun s hs => by cases hs
theorem inS_one {w u d : Int} {s : List Pt} (h1 : 2 ≤ s.length) (h2 : strt s) (h3 : ∀ p ∈ s, inP w u d p) : inS w u d [s] := fun t ht => by
  rw [List.mem_singleton] at ht; subst ht; exact ⟨h1, h2, h3⟩
theorem inS_two {w u d : Int} {a b : Pt} (h : ¬ ((a.1 = b.1) ↔ (a.2 = b.2))) (ha : inP w u d a) (hb : inP w u d b) : inS w u d [[a, b]] :=
  inS_one (by simp) ⟨h, trivial⟩ (fun p hp => by simp at hp; rcases hp with rfl | rfl <;> assumption)
theorem inS_three {w u d : Int} {a b c : Pt} (h1 : ¬ ((a.1 = b.1) ↔ (a.2 = b.2))) (h2 : ¬ ((b.1 = c.1) ↔ (b.2 = c.2))) (ha : inP w u d a) (hb : inP w u d b) (hc : inP w u d c) : inS w u d [[a, b, c]] :=
  inS_one (by simp) ⟨h1, h2, trivial⟩ (fun p hp => by simp at hp; rcases hp with rfl | rfl | rfl <;> assumption)
theorem inS_four {w u d : Int} {a b c e : Pt} (h1 : ¬ ((a.1 = b.1) ↔ (a.2 = b.2))) (h2 : ¬ ((b.1 = c.1) ↔ (b.2 = c.2))) (h3 : ¬ ((c.1 = e.1) ↔ (c.2 = e.2))) (ha : inP w u d a) (hb : inP w u d b) (hc : inP w u d c) (he : inP w u d e) : inS w u d [[a, b, c, e]] :=
  inS_one (by simp) ⟨h1, h2, h3, trivial⟩ (fun p hp => by simp at hp; rcases hp with rfl | rfl | rfl | rfl <;> assumption)
theorem inS_box {w u d r t b : Int} (h1 : 1 < r) (h2 : t < b) (h3 : r ≤ w) (h4 : -u ≤ t) (h5 : b ≤ d) : inS w u d [boxP r t b] :=
  inS_one (by simp [boxP]) ⟨by simp; omega, by simp; omega, by simp; omega, by simp; omega, trivial⟩ (fun p hp => by
    simp only [boxP, List.mem_cons, List.not_mem_nil, or_false] at hp
    rcases hp with rfl | rfl | rfl | rfl | rfl <;> (simp only [inP]; omega))
theorem emptyD_in : emptyD.In := ⟨by decide, by decide, by decide, inS_two (by simp) (by simp [inP, emptyD]) (by simp [inP, emptyD]), inL_nil⟩
theorem leafD_in (s : ByteArray) : (leafD s).In := by
  refine ⟨by simp only [leafD]; omega, by simp [leafD], by simp [leafD], ?_, fun l hl => ?_⟩
  · show inS ((s.size : Int) + 4) 1 1 ([[((0 : Int), (0 : Int)), (1, 0)]] ++ [boxP (s.size + 3) (-1) 1] ++ [[((s.size : Int) + 3, 0), ((s.size : Int) + 4, 0)]])
    exact inS_app (inS_app (inS_two (by simp) (by simp only [inP]; omega) (by simp only [inP]; omega)) (inS_box (by omega) (by omega) (by omega) (by omega) (by omega))) (inS_two (by simp) (by simp only [inP]; omega) (by simp only [inP]; omega))
  · simp only [leafD, List.mem_singleton] at hl
    subst hl
    simp only [leafD]
    omega
theorem seqD0_in {k : Drw} (h : k.In) : (seqD0 k).In := by
  have := h.w; have := h.up; have := h.dn
  exact ⟨by simp only [seqD0]; omega, by simp only [seqD0]; omega, by simp only [seqD0]; omega,
    inS_mv h.ss (by simp) (by simp only [seqD0]; omega) (by simp only [seqD0]; omega) (by simp only [seqD0]; omega), inL_mv h.ls (by simp) (by simp only [seqD0]; omega) (by simp only [seqD0]; omega) (by simp only [seqD0]; omega)⟩
theorem seqD1_in {d k : Drw} (hd : d.In) (h : k.In) : (seqD1 d k).In := by
  have := h.w; have := h.up; have := h.dn; have := hd.w; have := hd.up; have := hd.dn
  refine ⟨by simp only [seqD1]; omega, by simp only [seqD1]; omega, by simp only [seqD1]; omega, inS_app (inS_app ?_ ?_) ?_, inL_app ?_ ?_⟩
  · exact inS_more hd.ss (by simp only [seqD1]; omega) (by simp only [seqD1]; omega) (by simp only [seqD1]; omega)
  · exact inS_two (by simp; omega) (by simp only [inP, seqD1]; omega) (by simp only [inP, seqD1]; omega)
  · exact inS_mv h.ss (by simp only; omega) (by simp only [seqD1]; omega) (by simp only [seqD1]; omega) (by simp only [seqD1]; omega)
  · exact inL_more hd.ls (by simp only [seqD1]; omega) (by simp only [seqD1]; omega) (by simp only [seqD1]; omega)
  · exact inL_mv h.ls (by simp only; omega) (by simp only [seqD1]; omega) (by simp only [seqD1]; omega) (by simp only [seqD1]; omega)
theorem foldl_in {f : Drw → Drw → Drw} {p : Drw → Prop} (hf : ∀ d k, p d → k.In → p (f d k)) : ∀ (l : List Drw) (d : Drw), p d → (∀ k ∈ l, k.In) → p (l.foldl f d)
  | [], _, h, _ => h
  | k :: l, d, h, hl => foldl_in hf l (f d k) (hf d k h (hl k (by simp))) (fun x hx => hl x (by simp [hx]))
theorem seqD_in {l : List Drw} (h : ∀ k ∈ l, k.In) : (seqD l).In := by
  cases l with
  | nil => exact ⟨by decide, by decide, by decide, inS_nil, inL_nil⟩
  | cons k l => exact foldl_in (p := Drw.In) (fun d k => seqD1_in) l _ (seqD0_in (h k (by simp))) (fun x hx => h x (by simp [hx]))
theorem widest_ge : ∀ (l : List Drw) (m : Int), m ≤ l.foldl (fun m k => max m k.w) m ∧ ∀ k ∈ l, k.w ≤ l.foldl (fun m k => max m k.w) m
  | [], m => ⟨Int.le_refl _, fun k hk => by cases hk⟩
  | x :: l, m => by
    obtain ⟨h1, h2⟩ := widest_ge l (max m x.w)
    refine ⟨by simp only [List.foldl_cons]; omega, fun k hk => ?_⟩
    simp only [List.foldl_cons]
    rcases List.mem_cons.1 hk with rfl | hk
    · omega
    · exact h2 k hk
theorem choD0_in {wd : Int} {k : Drw} (h : k.In) (hw : k.w ≤ wd) : (choD0 wd k).In ∧ (choD0 wd k).w = wd + 4 := by
  have := h.w; have := h.up; have := h.dn
  refine ⟨⟨by simp only [choD0]; omega, by simp only [choD0]; omega, by simp only [choD0]; omega, inS_app (inS_app ?_ ?_) ?_, ?_⟩, rfl⟩
  · exact inS_two (by simp) (by simp only [inP, choD0]; omega) (by simp only [inP, choD0]; omega)
  · exact inS_mv h.ss (by simp) (by simp only [choD0]; omega) (by simp only [choD0]; omega) (by simp only [choD0]; omega)
  · exact inS_two (by simp; omega) (by simp only [inP, choD0]; omega) (by simp only [inP, choD0]; omega)
  · exact inL_mv h.ls (by simp) (by simp only [choD0]; omega) (by simp only [choD0]; omega) (by simp only [choD0]; omega)
theorem choD1_in {wd : Int} {d k : Drw} (hd : d.In) (h : k.In) (hw : k.w ≤ wd) (hdw : d.w = wd + 4) : (choD1 wd d k).In ∧ (choD1 wd d k).w = wd + 4 := by
  have := h.w; have := h.up; have := h.dn; have := hd.w; have := hd.up; have := hd.dn
  refine ⟨⟨by simp only [choD1]; omega, by simp only [choD1]; omega, by simp only [choD1]; omega, inS_app (inS_app (inS_app ?_ ?_) ?_) ?_, inL_app ?_ ?_⟩, hdw⟩
  · exact inS_more hd.ss (by simp only [choD1]; omega) (by simp only [choD1]; omega) (by simp only [choD1]; omega)
  · exact inS_three (by simp; omega) (by simp) (by simp only [inP, choD1]; omega) (by simp only [inP, choD1]; omega) (by simp only [inP, choD1]; omega)
  · exact inS_mv h.ss (by simp) (by simp only [choD1]; omega) (by simp only [choD1]; omega) (by simp only [choD1]; omega)
  · exact inS_three (by simp; omega) (by simp; omega) (by simp only [inP, choD1]; omega) (by simp only [inP, choD1]; omega) (by simp only [inP, choD1]; omega)
  · exact inL_more hd.ls (by simp only [choD1]; omega) (by simp only [choD1]; omega) (by simp only [choD1]; omega)
  · exact inL_mv h.ls (by simp) (by simp only [choD1]; omega) (by simp only [choD1]; omega) (by simp only [choD1]; omega)
theorem choDw_in {wd : Int} : ∀ {l : List Drw}, 0 ≤ wd → (∀ k ∈ l, k.In ∧ k.w ≤ wd) → (choDw wd l).In
  | [], h0, _ => ⟨by simp only [choDw]; omega, by simp [choDw], by simp [choDw], inS_nil, inL_nil⟩
  | k :: l, h0, h => by
    have h1 := choD0_in (h k (by simp)).1 (h k (by simp)).2
    have : ∀ (l : List Drw) (d : Drw), d.In ∧ d.w = wd + 4 → (∀ k ∈ l, k.In ∧ k.w ≤ wd) → (l.foldl (choD1 wd) d).In := by
      intro l
      induction l with
      | nil => intro d hd _; exact hd.1
      | cons x l ih => intro d hd hl; exact ih _ (choD1_in hd.1 (hl x (by simp)).1 (hl x (by simp)).2 hd.2) (fun y hy => hl y (by simp [hy]))
    exact this l _ h1 (fun y hy => h y (by simp [hy]))
theorem choD_in {l : List Drw} (h : ∀ k ∈ l, k.In) : (choD l).In :=
  choDw_in (widest_ge l 0).1 (fun k hk => ⟨h k hk, (widest_ge l 0).2 k hk⟩)
theorem throughD_ss {y : Int} {s : ByteArray} {k : Drw} (h : k.In) {d : Int} (hd : k.dn ≤ d) : inS (wideD s k + 4) (k.up + 2) d (throughD y s k).ss := by
  have := h.w; have := h.up; have := h.dn
  have hw : k.w ≤ wideD s k ∧ (s.size : Int) ≤ wideD s k := by unfold wideD; omega
  refine inS_app (inS_app ?_ ?_) ?_
  · exact inS_two (by simp) (by simp only [inP]; omega) (by simp only [inP]; omega)
  · exact inS_mv h.ss (by simp) (by simp only; omega) (by simp only; omega) (by simp only; omega)
  · exact inS_two (by simp; omega) (by simp only [inP]; omega) (by simp only [inP]; omega)
theorem throughD_ls {y : Int} {s : ByteArray} {k : Drw} (h : k.In) {d : Int} (hd : k.dn ≤ d) (hy : -(k.up + 2) ≤ y) (hy' : y ≤ d) : inL (wideD s k + 4) (k.up + 2) d (throughD y s k).ls := by
  have := h.w; have := h.up; have := h.dn
  have hw : k.w ≤ wideD s k ∧ (s.size : Int) ≤ wideD s k := by unfold wideD; omega
  refine inL_app (fun l hl => ?_) (inL_mv h.ls (by simp) (by simp only; omega) (by simp only; omega) (by simp only; omega))
  rw [List.mem_singleton] at hl
  subst hl
  simp only
  omega
theorem framedD_in {s : ByteArray} {k : Drw} (h : k.In) : (framedD s k).In := by
  have := h.w; have := h.up; have := h.dn
  have hw : k.w ≤ wideD s k ∧ (s.size : Int) ≤ wideD s k := by unfold wideD; omega
  exact ⟨by simp only [framedD, throughD]; omega, by simp only [framedD, throughD]; omega, by simp only [framedD]; omega,
    inS_app (throughD_ss h (by simp only [framedD]; omega)) (inS_box (by omega) (by omega) (by simp only [framedD, throughD]; omega) (by simp only [framedD, throughD]; omega) (by simp only [framedD]; omega)),
    throughD_ls h (by simp only [framedD]; omega) (by omega) (by simp only [framedD]; omega)⟩
theorem repD_in {n : Nod} {s : ByteArray} {k : Drw} (h : k.In) : (repD n s k).In := by
  have := h.w; have := h.up; have := h.dn
  have hw : k.w ≤ wideD s k ∧ (s.size : Int) ≤ wideD s k := by unfold wideD; omega
  have hdn : k.dn ≤ (repD n s k).dn ∧ 0 ≤ (repD n s k).dn := by simp only [repD]; split <;> omega
  refine ⟨by simp only [repD, throughD]; omega, by simp only [repD, throughD]; omega, hdn.2, inS_app (inS_app (throughD_ss h hdn.1) ?_) ?_, throughD_ls h hdn.1 (by omega) (by omega)⟩
  · unfold repS1
    split
    · exact inS_four (by simp; omega) (by simp; omega) (by simp; omega) (by simp only [inP, repD, throughD]; omega) (by simp only [inP, repD, throughD]; omega) (by simp only [inP, repD, throughD]; omega) (by simp only [inP, repD, throughD]; omega)
    · exact inS_nil
  · unfold repS2
    by_cases h0 : n.min = 0
    · have e : (repD n s k).dn = k.dn + 1 := by simp only [repD]; rw [if_pos h0]
      rw [if_pos h0, e]
      exact inS_four (by simp; omega) (by simp; omega) (by simp; omega) (by simp only [inP, repD, throughD]; omega) (by simp only [inP, repD, throughD]; omega) (by simp only [inP, repD, throughD]; omega) (by simp only [inP, repD, throughD]; omega)
    · rw [if_neg h0]; exact inS_nil
end Go.Bonsai
/- Drawings in memory. -/
namespace Go.Bonsai
open Go Go.Sl Go.RowKit Go.Fl
set_option linter.unusedVariables false
/-- a slice, read: each of its rows tells of a thing -/
def RSl {α : Type} (sz : Nat) (R : (Nat → Prop) → World → List Value → α → Prop) (S : Nat → Prop) (w : World) (v : Value) (xs : List α) : Prop :=
  ∃ A c rows, v = .slice A xs.length c ∧ Arr sz S w A xs.length rows ∧ All2 (R S w) rows xs ∧ xs.length ≤ c
/-- what stays where memory grows, and where it turns elsewhere -/
structure Rd {α : Type} (R : (Nat → Prop) → World → List Value → α → Prop) : Prop where
  mono : ∀ {S S' : Nat → Prop} {w : World} {cs : List Value} {x : α}, (∀ b, S b → S' b) → R S w cs x → R S' w cs x
  loc : ∀ {S : Nat → Prop} {w w' : World} {cs : List Value} {x : α}, (∀ b, S b → w'.heap[b]? = w.heap[b]?) → R S w cs x → R S w' cs x
theorem RSl.mono {α : Type} {sz : Nat} {R : (Nat → Prop) → World → List Value → α → Prop} (hR : Rd R) {S S' : Nat → Prop} {w : World} {v : Value} {xs : List α} (h : ∀ b, S b → S' b) : RSl sz R S w v xs → RSl sz R S' w v xs :=
  fun ⟨A, c, rows, h1, h2, h3, h4⟩ => ⟨A, c, rows, h1, h2.mono h, h3.imp fun _ _ => hR.mono h, h4⟩
theorem RSl.loc {α : Type} {sz : Nat} {R : (Nat → Prop) → World → List Value → α → Prop} (hR : Rd R) {S : Nat → Prop} {w w' : World} {v : Value} {xs : List α} (h : ∀ b, S b → w'.heap[b]? = w.heap[b]?) : RSl sz R S w v xs → RSl sz R S w' v xs :=
  fun ⟨A, c, rows, h1, h2, h3, h4⟩ => ⟨A, c, rows, h1, h2.loc h, h3.imp fun _ _ => hR.loc h, h4⟩
/-- a point -/
def cPt (v : Value) (p : Pt) : Prop := ∃ a b, v = .complex .f64 a b ∧ Den a p.1 ∧ Den b p.2
def RPt (_ : Nat → Prop) (_ : World) (cs : List Value) (p : Pt) : Prop := ∃ v, cs = [v] ∧ cPt v p
def RLab (_ : Nat → Prop) (_ : World) (cs : List Value) (l : Pt × ByteArray) : Prop := ∃ v, cs = [v, .string l.2] ∧ cPt v l.1
def RStr (S : Nat → Prop) (w : World) (cs : List Value) (s : List Pt) : Prop := ∃ v, cs = [v] ∧ RSl 1 RPt S w v s
theorem RPt.rd : Rd RPt := ⟨fun _ h => h, fun _ h => h⟩
theorem RLab.rd : Rd RLab := ⟨fun _ h => h, fun _ h => h⟩
theorem RStr.rd : Rd RStr := ⟨fun h ⟨v, h1, h2⟩ => ⟨v, h1, h2.mono RPt.rd h⟩, fun h ⟨v, h1, h2⟩ => ⟨v, h1, h2.loc RPt.rd h⟩⟩
/-- a drawing's cells -/
def RDr (S : Nat → Prop) (w : World) (cs : List Value) (d : Drw) : Prop := ∃ sv lv, cs = [.int .i64 d.w, .int .i64 d.up, .int .i64 d.dn, sv, lv] ∧ RSl 1 RStr S w sv d.ss ∧ RSl 2 RLab S w lv d.ls
theorem RDr.rd : Rd RDr := ⟨fun h ⟨s, l, h1, h2, h3⟩ => ⟨s, l, h1, h2.mono RStr.rd h, h3.mono RLab.rd h⟩, fun h ⟨s, l, h1, h2, h3⟩ => ⟨s, l, h1, h2.loc RStr.rd h, h3.loc RLab.rd h⟩⟩
/-- a piece that is only read -/
def hSl {α : Type} (sz : Nat) (R : (Nat → Prop) → World → List Value → α → Prop) (hR : Rd R) (v : Value) (xs : List α) : HP := ⟨fun S w => RSl sz R S w v xs, RSl.mono hR, RSl.loc hR⟩
def hAll {α : Type} (R : (Nat → Prop) → World → List Value → α → Prop) (hR : Rd R) (rows : List (List Value)) (xs : List α) : HP := ⟨fun S w => All2 (R S w) rows xs, fun h hh => hh.imp fun _ _ => hR.mono h, fun h hh => hh.imp fun _ _ => hR.loc h⟩
abbrev hStrs (v : Value) (ss : List (List Pt)) : HP := hSl 1 RStr RStr.rd v ss
abbrev hLabs (v : Value) (ls : List (Pt × ByteArray)) : HP := hSl 2 RLab RLab.rd v ls
abbrev hPts (v : Value) (ps : List Pt) : HP := hSl 1 RPt RPt.rd v ps
abbrev hDrs (v : Value) (ds : List Drw) : HP := hSl 5 RDr RDr.rd v ds
section
variable {α : Type} {sz : Nat} {R : (Nat → Prop) → World → List Value → α → Prop} {hR : Rd R} {w0 w : World} {L : List HP} {v : Value} {xs : List α}
theorem St.get_sl (h : St w0 L w) (ha : At L (hSl sz R hR v xs)) : RSl sz R (Old w) w v xs := h.at_all ha
theorem St.old_sl (hR : Rd R) (h : St w0 L w) (hr : RSl sz R (Old w0) w0 v xs) : RSl sz R (Old w) w v xs := (hr.loc hR (fun b hb => h.below.block b hb)).mono hR fun _ hb => Nat.lt_of_lt_of_le hb h.below.size
theorem St.old_rd (hR : Rd R) {cs : List Value} {x : α} (h : St w0 L w) (hr : R (Old w0) w0 cs x) : R (Old w) w cs x := hR.mono (fun _ hb => Nat.lt_of_lt_of_le hb h.below.size) (hR.loc (fun b hb => h.below.block b hb) hr)
theorem St.get_all {rows : List (List Value)} (h : St w0 L w) (ha : At L (hAll R hR rows xs)) : All2 (R (Old w) w) rows xs := h.at_all ha
/-- rows and what they tell, as a slice -/
theorem St.own_sl {e n c : Nat} {A : Option Addr} {rows : List (List Value)} (hl : xs.length = n) (h : St w0 L w) (ha : At L (own e sz A n c rows)) (hb : At L (hAll R hR rows xs)) : RSl sz R (Old w) w (.slice A n c) xs := by
  subst hl
  exact ⟨A, c, rows, rfl, St.own_arr h ha, St.get_all h hb, own.cap (h.at_all ha)⟩
theorem St.own_slP {e n c : Nat} {A : Option Addr} {rows : List (List Value)} (hl : xs.length = n) (hall : All2 (R (Old w) w) rows xs) (h : St w0 L w) (ha : At L (own e sz A n c rows)) : RSl sz R (Old w) w (.slice A n c) xs := by
  subst hl
  exact ⟨A, c, rows, rfl, St.own_arr h ha, hall, own.cap (h.at_all ha)⟩
theorem hAll_nil {S : Nat → Prop} : (hAll R hR [] ([] : List α)).on S w := All2.nil
theorem hAll_app {S S' : Nat → Prop} {r1 r2 : List (List Value)} {x1 x2 : List α} (h1 : (hAll R hR r1 x1).on S w) (h2 : (hAll R hR r2 x2).on S' w) : (hAll R hR (r1 ++ r2) (x1 ++ x2)).on (fun b => S b ∨ S' b) w :=
  (h1.imp fun _ _ => hR.mono fun _ h => .inl h).append (h2.imp fun _ _ => hR.mono fun _ h => .inr h)
/-- an own row and what it tells: together a slice that is read -/
theorem sl_own {S S' : Nat → Prop} {e n c : Nat} {A : Option Addr} {rows : List (List Value)} (hl : xs.length = n) (h1 : (own e sz A n c rows).on S w) (h2 : (hAll R hR rows xs).on S' w) : (hSl sz R hR (.slice A n c) xs).on (fun b => S b ∨ S' b) w := by
  subst hl
  exact ⟨A, c, rows, rfl, (own.arr h1).mono (fun _ h => .inl h), h2.imp fun _ _ => hR.mono fun _ h => .inr h, own.cap h1⟩
end
theorem oneB_pt {S : Nat → Prop} {w : World} {rows : List (List Value)} {ps : List Pt} (h : All2 (RPt S w) rows ps) : ∀ r ∈ rows, oneB r = true := by
  intro r hr
  obtain ⟨i, hi⟩ := List.mem_iff_getElem?.1 hr
  have hil := (List.getElem?_eq_some_iff.1 hi).1
  obtain ⟨v, rfl, a, b, rfl, _⟩ := h.2 i r _ hi (List.getElem?_eq_getElem (by rw [← h.1]; exact hil))
  rfl
theorem oneB_lab {S : Nat → Prop} {w : World} {rows : List (List Value)} {ls : List (Pt × ByteArray)} (h : All2 (RLab S w) rows ls) : ∀ r ∈ rows, oneB r = true := by
  intro r hr
  obtain ⟨i, hi⟩ := List.mem_iff_getElem?.1 hr
  have hil := (List.getElem?_eq_some_iff.1 hi).1
  obtain ⟨v, rfl, a, b, rfl, _⟩ := h.2 i r _ hi (List.getElem?_eq_getElem (by rw [← h.1]; exact hil))
  rfl
theorem oneB_str {S : Nat → Prop} {w : World} {rows : List (List Value)} {ss : List (List Pt)} (h : All2 (RStr S w) rows ss) : ∀ r ∈ rows, oneB r = true := by
  intro r hr
  obtain ⟨i, hi⟩ := List.mem_iff_getElem?.1 hr
  have hil := (List.getElem?_eq_some_iff.1 hi).1
  obtain ⟨v, rfl, A, c, rows', rfl, _⟩ := h.2 i r _ hi (List.getElem?_eq_getElem (by rw [← h.1]; exact hil))
  rfl
end Go.Bonsai
/- Drawings, walked: points, strokes, boxes, what is moved. -/
namespace Go.Proofs.YtalnmednhhimhaaDoor
open Go Go.Sl Go.RowKit Go.Bonsai Go.Fl
set_option linter.unusedVariables false
set_option linter.unusedSimpArgs false

theorem All2.more {α β : Type} {R : α → β → Prop} {a : α} {b : β} {l : List α} {m : List β} (h : R a b) (hh : All2 R l m) : All2 R (a :: l) (b :: m) := by
  refine ⟨by simp [hh.1], fun i x y hx hy => ?_⟩
  cases i with
  | zero => simp at hx hy; subst hx; subst hy; exact h
  | succ i => exact hh.2 i x y (by simpa using hx) (by simpa using hy)
theorem point_any (x y : Int) (w : World) (hx : x.natAbs < 2 ^ 53) (hy : y.natAbs < 2 ^ 53) : Calls Tryd.prog 26 #[.int .i64 x, .int .i64 y] w (RetV w (.complex .f64 (FloatKind.f64.nearest x) (FloatKind.f64.nearest y))) := by
  refine TC.calls (l := [.int .i64 x, .int .i64 y]) Tryd.func26 rfl Tryd.ntmps26 rfl (St.start w) ?_
  repeat' (first | ((apply T.ev_; exact rfl; apply Ev.conv_if; exact rfl)) | ((apply T.ev_; exact rfl; apply Ev.complex_; exact rfl; exact rfl)) | (refine W1 ?_) | (refine W2 (fun hc => ?_) (fun hc => ?_)) | (intro _))
  exact TX.ret_tmp rfl rfl (fun w' hw => RetV.eq hw rfl)
theorem cPt_point {x y : Int} (hx : x.natAbs < 2 ^ 53) (hy : y.natAbs < 2 ^ 53) : cPt (.complex .f64 (FloatKind.f64.nearest x) (FloatKind.f64.nearest y)) (x, y) := ⟨_, _, rfl, den_nearest hx, den_nearest hy⟩

abbrev dBlk (b : Nat) (c0 c1 c2 : Value) (p q : Option Addr × Nat) (n m : Nat) : HP := blk b [c0, c1, c2, .slice p.1 n p.2, .slice q.1 m q.2] 30
abbrev sOwn (p : Option Addr × Nat) (n : Nat) (rows : List (List Value)) : HP := own 76 1 p.1 n p.2 rows
abbrev lOwn (q : Option Addr × Nat) (m : Nat) (rows : List (List Value)) : HP := own 58 2 q.1 m q.2 rows
abbrev hSt (rows : List (List Value)) (ss : List (List Pt)) : HP := hAll RStr RStr.rd rows ss

theorem hSt_one {S : Nat → Prop} {w : World} {e n c : Nat} {A : Option Addr} {prow : List (List Value)} {ps : List Pt} (hn : n = ps.length) (hpr : All2 (RPt S w) prow ps) (h : (own e 1 A n c prow).on S w) : (hSt [[.slice A n c]] [ps]).on S w :=
  All2.nil.snoc (l := []) (m := []) ⟨_, rfl, A, c, prow, by rw [hn], by rw [← hn]; exact own.arr h, hpr, by rw [← hn]; exact own.cap h⟩
set_option maxHeartbeats 1000000 in
theorem stroke_any {w0 : World} {L0 : List HP} (b : Nat) (c0 c1 c2 : Value) (p q : Option Addr × Nat) (m : Nat) (rows : List (List Value)) (ss : List (List Pt)) (r : Option Addr × Nat) (prow : List (List Value)) (ps : List Pt) (w : World) (hl : ss.length ≤ 1000000000) (hp : ps.length ≤ 1000)
    (hpr : ∀ S w, All2 (RPt S w) prow ps) (hv : ∀ w', St w0 L0 w' → Arr 1 (fun b => b < w'.heap.size) w' r.1 ps.length prow) (hw : St w0 (dBlk b c0 c1 c2 p q ss.length m :: sOwn p ss.length rows :: hSt rows ss :: L0) w) :
    Calls Tryd.prog 54 #[.pointer (some ⟨b, 0, none⟩), .slice r.1 ps.length r.2] w (fun e w' => ∃ x : (Option Addr × Nat) × List (List Value), e = .returned (.tuple #[]) ∧ St w0 (dBlk b c0 c1 c2 x.1 q (ss ++ [ps]).length m :: sOwn x.1 (ss ++ [ps]).length x.2 :: hSt x.2 (ss ++ [ps]) :: L0) w') := by
  refine TC.calls (l := [.pointer (some ⟨b, 0, none⟩), .slice r.1 ps.length r.2]) (M := St w0 (dBlk b c0 c1 c2 p q ss.length m :: sOwn p ss.length rows :: hSt rows ss :: L0)) Tryd.func54 rfl Tryd.ntmps54 rfl hw ?_
  have hv' : ∀ w', St w0 (dBlk b c0 c1 c2 p q ss.length m :: sOwn p ss.length rows :: hSt rows ss :: L0) w' → Arr 1 (fun b => b < w'.heap.size) w' r.1 ps.length prow := fun w' h => hv w' (h.drop 3)
  refine TC.lexT [(6, .keep)] (.seg [0, 1, 2, 3, 4, 5, 6, 7, 8, 9, 10, 11] .fin) mixed (by kernel_rfl) (TT.seg rfl ?_)
  repeat' (first | (refine W1 ?_) | (refine W2 (fun hc => ?_) (fun hc => ?_)) | (intro _))
  refine TL.sub (M' := St w0 (own 56 1 none 0 0 [] :: dBlk b c0 c1 c2 p q ss.length m :: sOwn p ss.length rows :: hSt rows ss :: L0)) (fun w hw => St.own_nil hw) ?_
  refine TL.keep rfl rfl (fun _ h => h.drop 1) (Ac.append (rows := []) (news := prow) rfl rfl DelA (fun w hw => hv' w (hw.drop 1)) (fun w hw => oneB_pt (hpr (Old w) w)) (by unfold maxLen; omega) (by omega)) (fun _ _ h => h.drop 1) (fun p2 => ?_)
  obtain ⟨A2, c2'⟩ := p2
  dsimp only
  repeat' (first | (refine W1 ?_) | (refine W2 (fun hc => ?_) (fun hc => ?_)) | (intro _))
  rename_i B1
  refine TL.loud rfl rfl (Ac.append (rows := rows) (news := [[.slice A2 (0 + ps.length) c2']]) rfl rfl DelA (fun w hw => St.own_arr hw AtA) (fun _ _ r hr => by simp at hr; subst hr; rfl) (by unfold maxLen; omega) (by omega)) (fun p3 => ?_)
  obtain ⟨A3, c3⟩ := p3
  dsimp only
  repeat' (first | ((apply TX.tree)) | ((apply TT.fin)) | (refine W1 ?_) | (refine W2 (fun hc => ?_) (fun hc => ?_)) | (intro _))
  refine TX.end0 rfl (fun w' hw => ⟨((A3, c3), rows ++ [[.slice A2 (0 + ps.length) c2']]), rfl, ?_⟩)
  have e : (ss ++ [ps]).length = ss.length + 1 := by simp
  rw [e]
  have g1 := St.del (H := own 56 1 A2 (0 + ps.length) c2' ([] ++ prow)) DelA hw
  have g2 := St.weak (H' := hSt [[.slice A2 (0 + ps.length) c2']] [ps]) (fun S w h => hSt_one (by omega) (hpr S w) h) g1
  have g3 := St.del (H := hSt rows ss) (.there (.there (.there (.there .here)))) g2
  have g4 := St.join (K := hSt (rows ++ [[.slice A2 (0 + ps.length) c2']]) (ss ++ [ps])) (fun S S' w h h' => hAll_app h h') g3
  have g5 : St w0 (hSt (rows ++ [[.slice A2 (0 + ps.length) c2']]) (ss ++ [ps]) :: sOwn (A3, c3) (ss.length + 1) (rows ++ [[.slice A2 (0 + ps.length) c2']]) :: own 76 1 (some ⟨B1, 0, none⟩) 1 1 [(Value.slice A2 (0 + ps.length) c2').cells.toList] :: dBlk b c0 c1 c2 (A3, c3) q (ss.length + 1) m :: L0) w' := g4
  exact St.inc IncQ g5
theorem T.lit5 {P : Program} {n : FD} {s : Sg} {ty : TypeId} {ops : Array Oper} {Q : Exit → Act → World → Prop} {rest : List Oper} {d : Nat} {pos : String} {af : Array Edge} {w0 : World} {L : List HP} {t e by_ : Nat} {z : Value} {v0 v1 v2 v3 v4 : Value} {x0 x1 x2 x3 x4 : Operand} (hd : Nat.blt d n.sz = true) [ht : SlT P t e 1 by_ z] (hx0 : ev s x0 = some v0) (hx1 : ev s x1 = some v1) (hx2 : ev s x2 = some v2) (hx3 : ev s x3 = some v3) (hx4 : ev s x4 = some v4) (h0 : v0.cells = #[v0]) (h1 : v1.cells = #[v1]) (h2 : v2.cells = #[v2]) (h3 : v3.cells = #[v3]) (h4 : v4.cells = #[v4])
    (k : ∀ b, T P ops Q rest n ((d, .slice (some ⟨b, 0, none⟩) 5 5) :: s) (St w0 (own e 1 (some ⟨b, 0, none⟩) 5 5 [[v0], [v1], [v2], [v3], [v4]] :: L))) : T P ops Q (⟨some d, .buildSlice t 5 #[(0, x0), (1, x1), (2, x2), (3, x3), (4, x4)], ty, pos, af, none⟩ :: rest) n s (St w0 L) := by
  refine T.act hd (Ac.lit (ps := [(0, x0), (1, x1), (2, x2), (3, x3), (4, x4)]) (xs := [x0, x1, x2, x3, x4]) (vs := [v0, v1, v2, v3, v4]) rfl (by simp [evs, hx0, hx1, hx2, hx3, hx4]) ?_ (by simp) rfl (by simp [h0, h1, h2, h3, h4])) k
  intro u hu
  simp only [List.mem_cons, List.not_mem_nil, or_false] at hu
  rcases hu with rfl | rfl | rfl | rfl | rfl <;> simp [h0, h1, h2, h3, h4]
/-- a stroke of written points -/
theorem stroke_lit {w0 : World} {L0 : List HP} (b B : Nat) (c0 c1 c2 : Value) (p q : Option Addr × Nat) (m k : Nat) (rows : List (List Value)) (ss : List (List Pt)) (vs : List Value) (ps : List Pt) (w : World) (hk : ps.length = k) (hl : ss.length ≤ 1000000000) (hp : ps.length ≤ 1000)
    (hvs : All2 cPt vs ps) (hw : St w0 (own 56 1 (some ⟨B, 0, none⟩) k k (vs.map fun v => [v]) :: dBlk b c0 c1 c2 p q ss.length m :: sOwn p ss.length rows :: hSt rows ss :: L0) w) :
    Calls Tryd.prog 54 #[.pointer (some ⟨b, 0, none⟩), .slice (some ⟨B, 0, none⟩) k k] w (fun e w' => ∃ x : (Option Addr × Nat) × List (List Value), e = .returned (.tuple #[]) ∧ St w0 (dBlk b c0 c1 c2 x.1 q (ss ++ [ps]).length m :: sOwn x.1 (ss ++ [ps]).length x.2 :: hSt x.2 (ss ++ [ps]) :: L0) w') := by
  subst hk
  have hpr : ∀ S w, All2 (RPt S w) (vs.map fun v => [v]) ps := fun S w => ⟨by rw [List.length_map]; exact hvs.1, fun i r x hr hx => by
    rw [List.getElem?_map] at hr
    cases hi : vs[i]? with
    | none => rw [hi] at hr; cases hr
    | some v => rw [hi] at hr; cases hr; exact ⟨v, rfl, hvs.2 i v x hi hx⟩⟩
  refine (stroke_any (w0 := w0) (L0 := own 56 1 (some ⟨B, 0, none⟩) ps.length ps.length (vs.map fun v => [v]) :: L0) b c0 c1 c2 p q m rows ss (some ⟨B, 0, none⟩, ps.length) _ ps w hl hp hpr (fun w' h => St.own_arr h AtA) (St.inc IncQ hw)).mono ?_
  rintro e w' ⟨x, he, hw'⟩
  exact ⟨x, he, St.inc IncQ hw'⟩
theorem box_any {w0 : World} {L0 : List HP} (b : Nat) (c0 c1 c2 : Value) (p q : Option Addr × Nat) (m : Nat) (rows : List (List Value)) (ss : List (List Pt)) (r t u : Int) (w : World) (hr : r.natAbs < 2 ^ 53) (ht : t.natAbs < 2 ^ 53) (hu : u.natAbs < 2 ^ 53) (hl : ss.length ≤ 1000000000)
    (hw : St w0 (dBlk b c0 c1 c2 p q ss.length m :: sOwn p ss.length rows :: hSt rows ss :: L0) w) :
    Calls Tryd.prog 55 #[.pointer (some ⟨b, 0, none⟩), .int .i64 r, .int .i64 t, .int .i64 u] w (fun e w' => ∃ x : (Option Addr × Nat) × List (List Value), e = .returned (.tuple #[]) ∧ St w0 (dBlk b c0 c1 c2 x.1 q (ss ++ [boxP r t u]).length m :: sOwn x.1 (ss ++ [boxP r t u]).length x.2 :: hSt x.2 (ss ++ [boxP r t u]) :: L0) w') := by
  refine TC.calls (l := [.pointer (some ⟨b, 0, none⟩), .int .i64 r, .int .i64 t, .int .i64 u]) (M := St w0 (dBlk b c0 c1 c2 p q ss.length m :: sOwn p ss.length rows :: hSt rows ss :: L0)) Tryd.func55 rfl Tryd.ntmps55 rfl hw ?_
  have h1 : (1 : Int).natAbs < 2 ^ 53 := by decide
  repeat' (first | ((apply T.callV (f := 26); exact rfl; exact rfl; exact fun w' _ => point_any _ _ w' (by assumption) (by assumption))) | ((apply T.lit5; exact rfl; exact rfl; exact rfl; exact rfl; exact rfl; exact rfl; exact rfl; exact rfl; exact rfl; exact rfl; exact rfl)) | (refine W1 ?_) | (refine W2 (fun hc => ?_) (fun hc => ?_)) | (intro _))
  refine T.callM (val := fun _ : (Option Addr × Nat) × List (List Value) => .tuple #[]) rfl rfl (fun w' hw' => stroke_lit (L0 := L0) b _ c0 c1 c2 p q m 5 rows ss [_, _, _, _, _] (boxP r t u) w' rfl hl (by simp [boxP]) (All2.more (cPt_point h1 ht) (All2.more (cPt_point hr ht) (All2.more (cPt_point hr hu) (All2.more (cPt_point h1 hu) (All2.more (cPt_point h1 ht) .nil))))) hw') (fun x => ?_)
  repeat' (first | (refine W1 ?_) | (refine W2 (fun hc => ?_) (fun hc => ?_)) | (intro _))
  exact TX.end0 rfl (fun w' hw => ⟨x, rfl, hw⟩)
end Go.Proofs.YtalnmednhhimhaaDoor
/- Drawings, walked: an Empty, a leaf, what is moved, and what is put. -/
namespace Go.Fl
theorem den0 : Den 0 0 := den_of (s := false) (n := 0) (by decide) (by decide +kernel) rfl (by decide) (by decide)
theorem den1 : Den 4607182418800017408 1 := den_of (s := false) (n := 1) (by decide) (by decide +kernel) rfl (by decide) (by decide)
theorem den2 : Den 4611686018427387904 2 := den_of (s := false) (n := 2) (by decide) (by decide +kernel) rfl (by decide) (by decide)
end Go.Fl
namespace Go.Proofs.YtalnmednhhimhaaDoor
open Go Go.Sl Go.RowKit Go.Bonsai Go.Fl
set_option linter.unusedVariables false
set_option linter.unusedSimpArgs false
abbrev hLb (rows : List (List Value)) (ls : List (Pt × ByteArray)) : HP := hAll RLab RLab.rd rows ls
abbrev dVal (p q : Option Addr × Nat) (d : Drw) : Value := .agg #[.int .i64 d.w, .int .i64 d.up, .int .i64 d.dn, .slice p.1 d.ss.length p.2, .slice q.1 d.ls.length q.2]
abbrev RetD (w : World) (d : Drw) : Ending → World → Prop := Ret w (fun x : (Option Addr × Nat) × (Option Addr × Nat) => dVal x.1 x.2 d) (fun x => [hStrs (.slice x.1.1 d.ss.length x.1.2) d.ss, hLabs (.slice x.2.1 d.ls.length x.2.2) d.ls]) (fun _ => True)
theorem dret {w0 w : World} {L : List HP} {d : Drw} {p q : Option Addr × Nat} {rows lrows : List (List Value)} (hw : St w0 (sOwn p d.ss.length rows :: hSt rows d.ss :: lOwn q d.ls.length lrows :: hLb lrows d.ls :: L) w) : RetD w0 d (.returned (dVal p q d)) w := by
  have g1 := St.join (K := hStrs (.slice p.1 d.ss.length p.2) d.ss) (fun S S' w h h' => sl_own rfl h h') hw
  have g2 : St w0 (lOwn q d.ls.length lrows :: hLb lrows d.ls :: hStrs (.slice p.1 d.ss.length p.2) d.ss :: L) w := St.inc IncQ g1
  have g3 := St.join (K := hLabs (.slice q.1 d.ls.length q.2) d.ls) (fun S S' w h h' => sl_own rfl h h') g2
  exact Ret.mk (p, q) trivial (.cons (.there .here) (.cons .here .nil)) g3
theorem St.dnil {w0 w : World} {L : List HP} (h : St w0 L w) : St w0 (sOwn (none, 0) 0 [] :: hSt [] [] :: L) w :=
  St.own_nil (e := 76) (sz := 1) (St.push (H := hSt [] []) h Chg.refl hAll_nil)
theorem St.lnil {w0 w : World} {L : List HP} (h : St w0 L w) : St w0 (lOwn (none, 0) 0 [] :: hLb [] [] :: L) w :=
  St.own_nil (e := 58) (sz := 2) (St.push (H := hLb [] []) h Chg.refl hAll_nil)
theorem c00 : cPt (.complex .f64 0 0) (0, 0) := ⟨0, 0, rfl, den0, den0⟩
theorem c10 : cPt (.complex .f64 4607182418800017408 0) (1, 0) := ⟨_, _, rfl, den1, den0⟩
theorem c20 : cPt (.complex .f64 4611686018427387904 0) (2, 0) := ⟨_, _, rfl, den2, den0⟩

theorem rempty_any (n : Nod) (kv kids : Value) (w : World) : Calls Tryd.prog 32 #[.agg (n.cells kv).toArray, kids] w (RetD w emptyD) := by
  refine TC.calls (l := [.agg (n.cells kv).toArray, kids]) Tryd.func32 rfl Tryd.ntmps32 rfl (St.start w) ?_
  repeat' (first | (refine W1 ?_) | (refine W2 (fun hc => ?_) (fun hc => ?_)) | (intro _))
  rename_i b2 b4 b5 B
  refine T.ex (ι := Unit) (M' := fun _ => St w [own 56 1 (some ⟨B, 0, none⟩) 2 2 [[.complex .f64 0 0], [.complex .f64 4611686018427387904 0]], dBlk b5 (.int .i64 2) (.int .i64 0) (.int .i64 0) (none, 0) (none, 0) 0 0, sOwn (none, 0) 0 [], hSt [] [], lOwn (none, 0) 0 [], hLb [] [], blk b4 [.int .i64 0, .int .i64 0, .int .i64 0, .slice none 0 0, .slice none 0 0] 30]) (fun w' hw => ⟨(), ?_⟩) (fun _ => ?_)
  · have g0 : St w (own 56 1 (some ⟨B, 0, none⟩) 2 2 [[.complex .f64 0 0], [.complex .f64 4611686018427387904 0]] :: dBlk b5 (.int .i64 2) (.int .i64 0) (.int .i64 0) (none, 0) (none, 0) 0 0 :: blk b4 [.int .i64 0, .int .i64 0, .int .i64 0, .slice none 0 0, .slice none 0 0] 30 :: _) w' := hw
    exact St.inc IncQ (St.dnil (St.lnil g0))
  refine T.callM (val := fun _ : (Option Addr × Nat) × List (List Value) => .tuple #[]) rfl rfl (fun w' hw' => stroke_lit b5 B _ _ _ (none, 0) (none, 0) 0 2 [] [] [.complex .f64 0 0, .complex .f64 4611686018427387904 0] [(0, 0), (2, 0)] w' rfl (by simp) (by simp) (All2.more c00 (All2.more c20 .nil)) hw') (fun x => ?_)
  repeat' (first | (refine W1 ?_) | (refine W2 (fun hc => ?_) (fun hc => ?_)) | (intro _))
  refine TX.ret_gen (rs := [.cell 4 30]) (vs := [dVal x.1 (none, 0) emptyD]) rfl (.cell rfl (blk_res (cs := [.int .i64 2, .int .i64 0, .int .i64 0, .slice x.1.1 1 x.1.2, .slice none 0 0]) AtA rfl) .nil) (fun w' hw => ?_)
  exact dret (d := emptyD) (p := x.1) (q := (none, 0)) (rows := x.2) (lrows := []) (St.inc IncQ hw)
theorem fit53 {x : Int} (h : -1000000000000 ≤ x ∧ x ≤ 1000000000000) : x.natAbs < 2 ^ 53 := by omega
set_option maxHeartbeats 1000000 in
theorem rleaf_any (s : ByteArray) (w : World) (hs : s.size ≤ 1000000000) : Calls Tryd.prog 34 #[.string s] w (RetD w (leafD s)) := by
  refine TC.calls (l := [.string s]) Tryd.func34 rfl Tryd.ntmps34 rfl (St.start w) ?_
  repeat' (first | (refine W1 ?_) | (refine W2 (fun hc => ?_) (fun hc => ?_)) | (intro _))
  rename_i b2 BL b4 B
  refine T.ex (ι := Unit) (M' := fun _ => St w [own 56 1 (some ⟨B, 0, none⟩) 2 2 [[.complex .f64 0 0], [.complex .f64 4607182418800017408 0]], dBlk b4 (.int .i64 ((s.size : Int) + 4)) (.int .i64 1) (.int .i64 1) (none, 0) (some ⟨BL, 0, none⟩, 1) 0 1, sOwn (none, 0) 0 [], hSt [] [], lOwn (some ⟨BL, 0, none⟩, 1) 1 [[.complex .f64 4611686018427387904 0, .string s]], hLb [[.complex .f64 4611686018427387904 0, .string s]] [((2, 0), s)], blk b2 [.int .i64 0, .int .i64 0, .int .i64 0, .slice none 0 0, .slice none 0 0] 30]) (fun w' hw => ⟨(), ?_⟩) (fun _ => ?_)
  · have g0 : St w (own 56 1 (some ⟨B, 0, none⟩) 2 2 [[.complex .f64 0 0], [.complex .f64 4607182418800017408 0]] :: dBlk b4 (.int .i64 ((s.size : Int) + 4)) (.int .i64 1) (.int .i64 1) (none, 0) (some ⟨BL, 0, none⟩, 1) 0 1 :: lOwn (some ⟨BL, 0, none⟩, 1) 1 [[.complex .f64 4611686018427387904 0, .string s]] :: blk b2 [.int .i64 0, .int .i64 0, .int .i64 0, .slice none 0 0, .slice none 0 0] 30 :: _) w' := hw
    have g1 := St.dnil (St.push (H := hLb [[.complex .f64 4611686018427387904 0, .string s]] [((2, 0), s)]) g0 Chg.refl (All2.more ⟨_, rfl, c20⟩ .nil))
    exact St.inc IncQ g1
  refine T.callM (val := fun _ : (Option Addr × Nat) × List (List Value) => .tuple #[]) rfl rfl (fun w' hw' => stroke_lit b4 B _ _ _ (none, 0) (some ⟨BL, 0, none⟩, 1) 1 2 [] [] [.complex .f64 0 0, .complex .f64 4607182418800017408 0] [(0, 0), (1, 0)] w' rfl (by simp) (by simp) (All2.more c00 (All2.more c10 .nil)) hw') (fun x => ?_)
  repeat' (first | (refine W1 ?_) | (refine W2 (fun hc => ?_) (fun hc => ?_)) | (intro _))
  refine T.callM (val := fun _ : (Option Addr × Nat) × List (List Value) => .tuple #[]) rfl rfl (fun w' hw' => box_any b4 _ _ _ x.1 (some ⟨BL, 0, none⟩, 1) 1 x.2 ([] ++ [[(0, 0), (1, 0)]]) (s.size + 3) (-1) 1 w' (fit53 (by omega)) (by decide) (by decide) (by simp) hw') (fun y => ?_)
  repeat' (first | ((apply T.callV (f := 26); exact rfl; exact rfl; exact fun w' _ => point_any _ _ w' (fit53 (by omega)) (fit53 (by omega)))) | (refine W1 ?_) | (refine W2 (fun hc => ?_) (fun hc => ?_)) | (intro _))
  rename_i B3
  refine T.callM (val := fun _ : (Option Addr × Nat) × List (List Value) => .tuple #[]) rfl rfl (fun w' hw' => stroke_lit b4 B3 _ _ _ y.1 (some ⟨BL, 0, none⟩, 1) 1 2 y.2 ([] ++ [[(0, 0), (1, 0)]] ++ [boxP (s.size + 3) (-1) 1]) [_, _] [((s.size : Int) + 3, 0), ((s.size : Int) + 4, 0)] w' rfl (by simp) (by simp) (All2.more (cPt_point (fit53 (by omega)) (by decide)) (All2.more (cPt_point (fit53 (by omega)) (by decide)) .nil)) hw') (fun z => ?_)
  repeat' (first | (refine W1 ?_) | (refine W2 (fun hc => ?_) (fun hc => ?_)) | (intro _))
  refine TX.ret_gen (rs := [.cell 2 30]) (vs := [dVal z.1 (some ⟨BL, 0, none⟩, 1) (leafD s)]) rfl (.cell rfl (blk_res (cs := [.int .i64 ((s.size : Int) + 4), .int .i64 1, .int .i64 1, .slice z.1.1 3 z.1.2, .slice (some ⟨BL, 0, none⟩) 1 1]) AtA rfl) .nil) (fun w' hw => ?_)
  exact dret (d := leafD s) (p := z.1) (q := (some ⟨BL, 0, none⟩, 1)) (rows := z.2) (lrows := [[.complex .f64 4611686018427387904 0, .string s]]) (St.inc IncQ hw)
end Go.Proofs.YtalnmednhhimhaaDoor
/- Drawings, walked: what is done to each point, here: what is moved. -/
namespace Go.Sl
section
variable {P : Program} {n : FD} {s : Sg} {ty : TypeId} {w0 : World} {L : List HP}
theorem Cl.callFC {v : Value} {f : FuncId} {x : Nat} {xs : List Operand} {vs cap : List Value} {tys : Array TypeId} (hf' : CF P f) (hx : lk s x = some (.func (.func f) #[] cap.toArray)) (hxs : evs s xs = some vs)
    (h : ∀ w, St w0 L w → Calls P f (vs ++ cap).toArray w (RetV w v)) : Cl P n s (St w0 L) (.call { callee := .value (.tmp x), args := xs.toArray, argTypes := tys }) ty (fun _ : Unit => v) (fun _ => St w0 L) :=
  Cl.callFM (LL := fun _ => L) hf' hx hxs (fun w hw => (h w hw).mono (by rintro e w' ⟨he, hb⟩; exact ⟨(), he, hw.grow (Chg.of_below hb)⟩))
theorem T.callFC {ops : Array Oper} {Q : Exit → Act → World → Prop} {rest : List Oper} {d : Nat} {pos : String} {af : Array Edge} {v : Value} {f : FuncId} {x : Nat} {xs : List Operand} {vs cap : List Value} {tys : Array TypeId} (hd : Nat.blt d n.sz = true) [hf' : CF P f] (hx : lk s x = some (.func (.func f) #[] cap.toArray)) (hxs : evs s xs = some vs)
    (h : ∀ w, St w0 L w → Calls P f (vs ++ cap).toArray w (RetV w v)) (k : T P ops Q rest n ((d, v) :: s) (St w0 L)) : T P ops Q (⟨some d, .call { callee := .value (.tmp x), args := xs.toArray, argTypes := tys }, ty, pos, af, none⟩ :: rest) n s (St w0 L) :=
  T.cl hd (Cl.callFC hf' hx hxs h) (fun _ => k)
end
end Go.Sl
namespace Go.Proofs.YtalnmednhhimhaaDoor
open Go Go.Sl Go.RowKit Go.Bonsai Go.Fl
set_option linter.unusedVariables false
set_option linter.unusedSimpArgs false
theorem shift1_any (a b c d : Nat) (bk : Nat) (w : World) (hc : w.cell? ⟨bk, 0, none⟩ = some (.complex .f64 c d)) (h1 : Ieee.double.add a c = some (addW a c)) (h2 : Ieee.double.add b d = some (addW b d)) :
    Calls Tryd.prog 65 #[.complex .f64 a b, .pointer (some ⟨bk, 0, none⟩)] w (RetV w (.complex .f64 (addW a c) (addW b d))) := by
  refine TC.calls (l := [.complex .f64 a b, .pointer (some ⟨bk, 0, none⟩)]) Tryd.func65 rfl Tryd.ntmps65 rfl (St.start w) ?_
  repeat' (first | ((apply T.ev_; exact rfl; apply Ev.load1; exact rfl; exact fun w' hw => St.old_cell hw hc)) | ((apply T.ev_; exact rfl; apply Ev.cadd; exact rfl; exact rfl; assumption; assumption)) | (refine W1 ?_) | (refine W2 (fun hc => ?_) (fun hc => ?_)) | (intro _))
  exact TX.ret_tmp rfl rfl (fun w' hw => RetV.eq hw rfl)
theorem cPt_add {a b c d : Nat} {p q : Pt} (ha : Den a p.1) (hb : Den b p.2) (hc : Den c q.1) (hd : Den d q.2) (h : (p.1 + q.1).natAbs < 2 ^ 53 ∧ (p.2 + q.2).natAbs < 2 ^ 53) :
    (Ieee.double.add a c = some (addW a c) ∧ Ieee.double.add b d = some (addW b d)) ∧ cPt (.complex .f64 (addW a c) (addW b d)) (mvP q p) := by
  obtain ⟨h1, h2⟩ := addW_den ha hc h.1
  obtain ⟨h3, h4⟩ := addW_den hb hd h.2
  exact ⟨⟨h1, h3⟩, _, _, rfl, h2, h4⟩
/-- the first points are moved -/
structure Mvd (q : Pt) (s : List Pt) (k : Nat) (rows : List (List Value)) : Prop where
  le : k ≤ s.length
  len : rows.length = s.length
  one : ∀ j, j < s.length → ∃ v, rows[j]? = some [v]
  mv : ∀ j, j < k → ∀ p, s[j]? = some p → ∃ v, rows[j]? = some [v] ∧ cPt v (mvP q p)
theorem Mvd.zero (q : Pt) (s : List Pt) (v : Value) : Mvd q s 0 (List.replicate s.length [v]) := ⟨Nat.zero_le _, by simp, fun j hj => ⟨v, by simp [List.getElem?_replicate, hj]⟩, fun j hj => absurd hj (by omega)⟩
theorem Mvd.step {q : Pt} {s : List Pt} {k : Nat} {rows : List (List Value)} {p : Pt} {v : Value} (h : Mvd q s k rows) (hp : s[k]? = some p) (hv : cPt v (mvP q p)) : Mvd q s (k + 1) (rows.set k [v]) := by
  have hk := (List.getElem?_eq_some_iff.1 hp).1
  refine ⟨hk, by rw [List.length_set]; exact h.len, fun j hj => ?_, fun j hj p' hp' => ?_⟩
  · by_cases e : k = j
    · subst e; exact ⟨v, List.getElem?_set_self (by rw [h.len]; exact hk)⟩
    · rw [List.getElem?_set_ne e]; exact h.one j hj
  · by_cases e : k = j
    · subst e
      rw [hp] at hp'; cases hp'
      exact ⟨v, List.getElem?_set_self (by rw [h.len]; exact hk), hv⟩
    · rw [List.getElem?_set_ne e]; exact h.mv j (by omega) p' hp'
theorem Mvd.all {q : Pt} {s : List Pt} {rows : List (List Value)} (h : Mvd q s s.length rows) (S : Nat → Prop) (w : World) : All2 (RPt S w) rows (s.map (mvP q)) := by
  refine ⟨by rw [List.length_map]; exact h.len, fun i r x hr hx => ?_⟩
  rw [List.getElem?_map] at hx
  cases hp : s[i]? with
  | none => rw [hp] at hx; cases hx
  | some p =>
    rw [hp] at hx; cases hx
    obtain ⟨v, h1, h2⟩ := h.mv i (List.getElem?_eq_some_iff.1 hp).1 p hp
    rw [h1] at hr; cases hr
    exact ⟨v, rfl, h2⟩
theorem mvS_take {q : Pt} {ss : List (List Pt)} {i : Nat} {s : List Pt} (h : ss.take (i + 1) = ss.take i ++ [s]) : mvS q (ss.take (i + 1)) = mvS q (ss.take i) ++ [s.map (mvP q)] := by rw [h]; simp [mvS]
theorem mvL_take {q : Pt} {ls : List (Pt × ByteArray)} {i : Nat} {l : Pt × ByteArray} (h : ls.take (i + 1) = ls.take i ++ [l]) : mvL q (ls.take (i + 1)) = mvL q (ls.take i) ++ [(mvP q l.1, l.2)] := by rw [h]; simp [mvL]

set_option maxHeartbeats 4000000 in
theorem each_any (d : Drw) (A B : Option Addr) (ca cb : Nat) (srows lrows : List (List Value)) (bk c0 c1 : Nat) (q : Pt) (w : World)
    (hA : Arr 1 (Old w) w A d.ss.length srows) (hs : All2 (RStr (Old w) w) srows d.ss) (hB : Arr 2 (Old w) w B d.ls.length lrows) (hl : All2 (RLab (Old w) w) lrows d.ls)
    (hc : w.cell? ⟨bk, 0, none⟩ = some (.complex .f64 c0 c1)) (hd0 : Den c0 q.1) (hd1 : Den c1 q.2) (hsl : d.ss.length ≤ 1000000000) (hll : d.ls.length ≤ 1000000000)
    (hps : ∀ s ∈ d.ss, s.length ≤ 1000 ∧ ∀ p ∈ s, (p.1 + q.1).natAbs < 2 ^ 53 ∧ (p.2 + q.2).natAbs < 2 ^ 53) (hpl : ∀ l ∈ d.ls, (l.1.1 + q.1).natAbs < 2 ^ 53 ∧ (l.1.2 + q.2).natAbs < 2 ^ 53) :
    Calls Tryd.prog 64 #[.agg #[.int .i64 d.w, .int .i64 d.up, .int .i64 d.dn, .slice A d.ss.length ca, .slice B d.ls.length cb], .func (.func 65) #[] #[.pointer (some ⟨bk, 0, none⟩)]] w (RetD w (d.shift q)) := by
  refine TC.calls (l := [.agg #[.int .i64 d.w, .int .i64 d.up, .int .i64 d.dn, .slice A d.ss.length ca, .slice B d.ls.length cb], .func (.func 65) #[] #[.pointer (some ⟨bk, 0, none⟩)]]) Tryd.func64 rfl Tryd.ntmps64 rfl (St.start w) ?_
  repeat' (first | (refine W1 ?_) | (refine W2 (fun hc => ?_) (fun hc => ?_)) | (intro _))
  rename_i b2 b4 b5
  refine TC.loopA (ι := (Option Addr × Nat) × Nat × List (List Value)) ((none, 0), 0, []) (fun k r => (23, .int .i64 k.2.1) :: r)
    (fun k => St w [dBlk b5 (.int .i64 d.w) (.int .i64 d.up) (.int .i64 d.dn) k.1 (none, 0) k.2.1 0, sOwn k.1 k.2.1 k.2.2, hSt k.2.2 (mvS q (d.ss.take k.2.1)), lOwn (none, 0) 0 [], hLb [] [], blk b4 [.int .i64 0, .int .i64 0, .int .i64 0, .slice none 0 0, .slice none 0 0] 30, blk b2 [.int .i64 d.w, .int .i64 d.up, .int .i64 d.dn, .slice A d.ss.length ca, .slice B d.ls.length cb] 30])
    (fun k => k.2.1 ≤ d.ss.length) (fun k => d.ss.length - k.2.1) KpA SubA (fun w' hw => ?_) (Nat.zero_le _) ?_
  · have g0 : St w (dBlk b5 (.int .i64 d.w) (.int .i64 d.up) (.int .i64 d.dn) (none, 0) (none, 0) 0 0 :: blk b4 [.int .i64 0, .int .i64 0, .int .i64 0, .slice none 0 0, .slice none 0 0] 30 :: blk b2 [.int .i64 d.w, .int .i64 d.up, .int .i64 d.dn, .slice A d.ss.length ca, .slice B d.ls.length cb] 30 :: []) w' := hw
    exact St.inc IncQ (St.dnil (St.lnil g0))
  rintro ⟨p, i, rows⟩ hi
  simp only at hi ⊢
  by_cases hlt : i < d.ss.length
  · have hck : decide ((i : Int) < (d.ss.length : Int)) = true := by simp [hlt]
    have hgx : d.ss[i]? = some d.ss[i] := List.getElem?_eq_getElem hlt
    have hmem := List.getElem_mem hlt
    have htk : d.ss.take (i + 1) = d.ss.take i ++ [d.ss[i]] := List.take_succ_eq_append_getElem hlt
    generalize d.ss[i] = s at *
    have hmv := mvS_take (q := q) htk
    obtain ⟨hsn, hsp⟩ := hps s hmem
    obtain ⟨cs, hcs, _, rfl, Ai, ci, prow, rfl, hAi, hpi, hci⟩ := hs.get hgx
    have hA' : A = some (A.getD default) := hA.some_ (by omega)
    repeat' (first | (refine W1 ?_) | (refine W2 (fun hc => ?_) (fun hc => ?_)) | (intro _))
    rename_i B1
    refine TC.loopA (ι := Nat × List (List Value)) (0, List.replicate s.length [.complex .f64 0 0]) (fun k r => (32, .int .i64 k.1) :: r)
      (fun k => St w [own 56 1 (some ⟨B1, 0, none⟩) s.length s.length k.2, dBlk b5 (.int .i64 d.w) (.int .i64 d.up) (.int .i64 d.dn) p (none, 0) i 0, sOwn p i rows, hSt rows (mvS q (d.ss.take i)), lOwn (none, 0) 0 [], hLb [] [], blk b4 [.int .i64 0, .int .i64 0, .int .i64 0, .slice none 0 0, .slice none 0 0] 30, blk b2 [.int .i64 d.w, .int .i64 d.up, .int .i64 d.dn, .slice A d.ss.length ca, .slice B d.ls.length cb] 30])
      (fun k => Mvd q s k.1 k.2) (fun k => s.length - k.1) KpA SubA (fun w' hw => hw) (Mvd.zero q s _) ?_
    rintro ⟨k, prs⟩ hm
    simp only at hm ⊢
    have hkl := hm.le
    have hrl := hm.len
    by_cases hlk : k < s.length
    · have hck2 : decide ((k : Int) < (s.length : Int)) = true := by simp [hlk]
      have hgp : s[k]? = some s[k] := List.getElem?_eq_getElem hlk
      have hpm := List.getElem_mem hlk
      generalize s[k] = pt at *
      obtain ⟨cs2, hcs2, _, rfl, wa, wb, rfl, da, db⟩ := hpi.get hgp
      obtain ⟨⟨ha1, ha2⟩, hcp⟩ := cPt_add da db hd0 hd1 (hsp pt hpm)
      obtain ⟨u, hu⟩ := hm.one k hlk
      have hAi' : Ai = some (Ai.getD default) := hAi.some_ (by omega)
      repeat' (first | (refine W1 ?_) | (refine W2 (fun hc => ?_) (fun hc => ?_)) | (intro _))
      refine T.callFC (f := 65) (vs := [.complex .f64 wa wb]) (cap := [.pointer (some ⟨bk, 0, none⟩)]) rfl rfl rfl (fun w' hw' => shift1_any wa wb c0 c1 bk w' (St.old_cell hw' hc) ha1 ha2) ?_
      repeat' (first | (refine W1 ?_) | (refine W2 (fun hc => ?_) (fun hc => ?_)) | (intro _))
      refine T.storeA (i := k) (o := 0) (r := [u]) rfl rfl rfl rfl rfl rfl UpdA (by omega) hu (by simp) ?_
      repeat' (first | (refine W1 ?_) | (refine W2 (fun hc => ?_) (fun hc => ?_)) | (intro _))
      exact TX.round (k + 1, prs.set k [.complex .f64 (addW wa c0) (addW wb c1)]) (hm.step hgp hcp) (show s.length - (k + 1) < s.length - k by omega) SubA (fun w' hw => hw)
    · have hck2 : decide ((k : Int) < (s.length : Int)) = false := by simp; omega
      obtain rfl : k = s.length := by omega
      have hpa := hm.all
      repeat' (first | (refine W1 ?_) | (refine W2 (fun hc => ?_) (fun hc => ?_)) | (intro _))
      rename_i B3
      refine T.append (rows := rows) (news := [[.slice (some ⟨B1, 0, none⟩) s.length s.length]]) rfl rfl rfl DelA (fun w hw => St.own_arr hw AtA) (fun _ _ r hr => by simp at hr; subst hr; rfl) (by unfold maxLen; omega) (by omega) (fun A4 c4 => ?_)
      repeat' (first | (refine W1 ?_) | (refine W2 (fun hc => ?_) (fun hc => ?_)) | (intro _))
      refine TX.round ((A4, c4), i + 1, rows ++ [[.slice (some ⟨B1, 0, none⟩) s.length s.length]]) hlt (show d.ss.length - (i + 1) < d.ss.length - i by omega) SubA (fun w' hw => ?_)
      have g1 := St.del (H := own 56 1 (some ⟨B1, 0, none⟩) s.length s.length prs) DelA hw
      have g2 := St.weak (H' := hSt [[.slice (some ⟨B1, 0, none⟩) s.length s.length]] [s.map (mvP q)]) (fun S w h => hSt_one (by simp) (hpa S w) h) g1
      have g3 := St.del (H := hSt rows (mvS q (d.ss.take i))) DelA g2
      have g4 := St.join (K := hSt (rows ++ [[.slice (some ⟨B1, 0, none⟩) s.length s.length]]) (mvS q (d.ss.take i) ++ [s.map (mvP q)])) (fun S S' w h h' => hAll_app h h') g3
      dsimp only
      rw [hmv]
      exact St.inc IncQ g4
  have hck : decide ((i : Int) < (d.ss.length : Int)) = false := by simp; omega
  obtain rfl : i = d.ss.length := by omega
  rw [List.take_of_length_le (Nat.le_refl _)]
  repeat' (first | (refine W1 ?_) | (refine W2 (fun hc => ?_) (fun hc => ?_)) | (intro _))
  refine TC.loopA (ι := (Option Addr × Nat) × Nat × List (List Value)) ((none, 0), 0, []) (fun k r => (54, .int .i64 k.2.1) :: r)
    (fun k => St w [dBlk b5 (.int .i64 d.w) (.int .i64 d.up) (.int .i64 d.dn) p k.1 d.ss.length k.2.1, sOwn p d.ss.length rows, hSt rows (mvS q d.ss), lOwn k.1 k.2.1 k.2.2, hLb k.2.2 (mvL q (d.ls.take k.2.1)), blk b4 [.int .i64 0, .int .i64 0, .int .i64 0, .slice none 0 0, .slice none 0 0] 30, blk b2 [.int .i64 d.w, .int .i64 d.up, .int .i64 d.dn, .slice A d.ss.length ca, .slice B d.ls.length cb] 30])
    (fun k => k.2.1 ≤ d.ls.length) (fun k => d.ls.length - k.2.1) KpA SubA (fun w' hw => hw) (Nat.zero_le _) ?_
  rintro ⟨r, i, lr⟩ hi2
  simp only at hi2 ⊢
  by_cases hlt2 : i < d.ls.length
  · have hck3 : decide ((i : Int) < (d.ls.length : Int)) = true := by simp [hlt2]
    have hgx : d.ls[i]? = some d.ls[i] := List.getElem?_eq_getElem hlt2
    have hmem := List.getElem_mem hlt2
    have htk : d.ls.take (i + 1) = d.ls.take i ++ [d.ls[i]] := List.take_succ_eq_append_getElem hlt2
    generalize d.ls[i] = l at *
    have hmv := mvL_take (q := q) htk
    obtain ⟨cs, hcs, _, rfl, wa, wb, rfl, da, db⟩ := hl.get hgx
    obtain ⟨⟨ha1, ha2⟩, hcp⟩ := cPt_add da db hd0 hd1 (hpl l hmem)
    have hB' : B = some (B.getD default) := hB.some_ (by omega)
    repeat' (first | ((refine TC.lexT [] (.seg [0, 1, 2, 3, 4, 6, 7, 5, 8, 9, 10, 11, 12] .fin) mixed (by kernel_rfl) (TT.seg rfl ?_))) | (refine W1 ?_) | (refine W2 (fun hc => ?_) (fun hc => ?_)) | (intro _))
    refine TL.kcall rfl rfl (fun _ h => h) (Cl.callFC (f := 65) (vs := [.complex .f64 wa wb]) (cap := [.pointer (some ⟨bk, 0, none⟩)]) inferInstance rfl rfl (fun w' hw' => shift1_any wa wb c0 c1 bk w' (St.old_cell hw' hc) ha1 ha2)) (fun _ _ h => h) (fun _ => ?_)
    repeat' (first | (refine W1 ?_) | (refine W2 (fun hc => ?_) (fun hc => ?_)) | (intro _))
    rename_i B5
    refine TL.loud rfl rfl (Ac.append (rows := lr) (news := [[.complex .f64 (addW wa c0) (addW wb c1), .string l.2]]) rfl rfl DelA (fun w hw => St.own_arr hw AtA) (fun _ _ r hr => by simp at hr; subst hr; rfl) (by unfold maxLen; omega) (by omega)) (fun p4 => ?_)
    obtain ⟨A4, c4⟩ := p4
    dsimp only
    repeat' (first | ((apply TX.tree)) | ((apply TT.fin)) | (refine W1 ?_) | (refine W2 (fun hc => ?_) (fun hc => ?_)) | (intro _))
    refine TX.round ((A4, c4), i + 1, lr ++ [[.complex .f64 (addW wa c0) (addW wb c1), .string l.2]]) hlt2 (show d.ls.length - (i + 1) < d.ls.length - i by omega) SubA (fun w' hw => ?_)
    have g1 := St.del (H := hLb lr (mvL q (d.ls.take i))) DelA hw
    have g2 := St.weak (H' := hLb (lr ++ [[.complex .f64 (addW wa c0) (addW wb c1), .string l.2]]) (mvL q (d.ls.take i) ++ [(mvP q l.1, l.2)])) (fun S w h => All2.snoc h ⟨_, rfl, hcp⟩) g1
    dsimp only
    rw [hmv]
    exact St.inc IncQ g2
  have hck3 : decide ((i : Int) < (d.ls.length : Int)) = false := by simp; omega
  obtain rfl : i = d.ls.length := by omega
  rw [List.take_of_length_le (Nat.le_refl _)]
  repeat' (first | (refine W1 ?_) | (refine W2 (fun hc => ?_) (fun hc => ?_)) | (intro _))
  have e1 : (mvS q d.ss).length = d.ss.length := by simp [mvS]
  have e2 : (mvL q d.ls).length = d.ls.length := by simp [mvL]
  refine TX.ret_gen (rs := [.cell 4 30]) (vs := [.agg #[.int .i64 d.w, .int .i64 d.up, .int .i64 d.dn, .slice p.1 d.ss.length p.2, .slice r.1 d.ls.length r.2]]) rfl (.cell rfl (blk_res (cs := [.int .i64 d.w, .int .i64 d.up, .int .i64 d.dn, .slice p.1 d.ss.length p.2, .slice r.1 d.ls.length r.2]) AtA rfl) .nil) (fun w' hw => ?_)
  have g := dret (d := d.shift q) (p := p) (q := r) (rows := rows) (lrows := lr) (w0 := w) (w := w') (L := []) (by
    show St w (sOwn p (mvS q d.ss).length rows :: hSt rows (mvS q d.ss) :: lOwn r (mvL q d.ls).length lr :: hLb lr (mvL q d.ls) :: []) w'
    rw [e1, e2]
    exact St.inc IncQ hw)
  have e : dVal p r (d.shift q) = .agg #[.int .i64 d.w, .int .i64 d.up, .int .i64 d.dn, .slice p.1 d.ss.length p.2, .slice r.1 d.ls.length r.2] := by
    show Value.agg #[.int .i64 d.w, .int .i64 d.up, .int .i64 d.dn, .slice p.1 (mvS q d.ss).length p.2, .slice r.1 (mvL q d.ls).length r.2] = _
    rw [e1, e2]
  rw [e] at g
  exact g
end Go.Proofs.YtalnmednhhimhaaDoor
/- Drawings, walked: Shift, and what was drawn of a kid put in. -/
namespace Go.Bonsai
open Go Go.Sl Go.RowKit Go.Fl
/-- all of a drawing, moved, may be told -/
structure Drw.Fit (q : Pt) (d : Drw) : Prop where
  ss : d.ss.length ≤ 1000000000
  ls : d.ls.length ≤ 1000000000
  ps : ∀ s ∈ d.ss, s.length ≤ 1000 ∧ ∀ p ∈ s, (p.1 + q.1).natAbs < 2 ^ 53 ∧ (p.2 + q.2).natAbs < 2 ^ 53
  pl : ∀ l ∈ d.ls, (l.1.1 + q.1).natAbs < 2 ^ 53 ∧ (l.1.2 + q.2).natAbs < 2 ^ 53
/-- a slice that is read, its rows told -/
def hSr {α : Type} (sz : Nat) (R : (Nat → Prop) → World → List Value → α → Prop) (hR : Rd R) (A : Option Addr) (n : Nat) (rows : List (List Value)) (xs : List α) : HP :=
  ⟨fun S w => Arr sz S w A n rows ∧ All2 (R S w) rows xs, fun h hh => ⟨hh.1.mono h, hh.2.imp fun _ _ => hR.mono h⟩, fun h hh => ⟨hh.1.loc h, hh.2.imp fun _ _ => hR.loc h⟩⟩
theorem hSl_open {α : Type} {sz : Nat} {R : (Nat → Prop) → World → List Value → α → Prop} {hR : Rd R} {S : Nat → Prop} {w : World} {A : Option Addr} {n c : Nat} {xs : List α} (h : (hSl sz R hR (.slice A n c) xs).on S w) : ∃ rows, (hSr sz R hR A n rows xs).on S w := by
  obtain ⟨A', c', rows, e, h1, h2, h3⟩ := h
  injection e with e1 e2 e3
  subst e1; subst e2; subst e3
  exact ⟨rows, h1, h2⟩
theorem St.sr_arr {α : Type} {sz : Nat} {R : (Nat → Prop) → World → List Value → α → Prop} {hR : Rd R} {w0 w : World} {L : List HP} {A : Option Addr} {n : Nat} {rows : List (List Value)} {xs : List α} (h : St w0 L w) (ha : At L (hSr sz R hR A n rows xs)) : Arr sz (Old w) w A n rows := (h.at_all ha).1
theorem St.sr_all {α : Type} {sz : Nat} {R : (Nat → Prop) → World → List Value → α → Prop} {hR : Rd R} {w0 w : World} {L : List HP} {A : Option Addr} {n : Nat} {rows : List (List Value)} {xs : List α} (h : St w0 L w) (ha : At L (hSr sz R hR A n rows xs)) : All2 (R (Old w) w) rows xs := (h.at_all ha).2
end Go.Bonsai
namespace Go.Proofs.YtalnmednhhimhaaDoor
open Go Go.Sl Go.RowKit Go.Bonsai Go.Fl
set_option linter.unusedVariables false
set_option linter.unusedSimpArgs false
abbrev RdD (w : World) (p r : Option Addr × Nat) (d : Drw) : Prop := RSl 1 RStr (Old w) w (.slice p.1 d.ss.length p.2) d.ss ∧ RSl 2 RLab (Old w) w (.slice r.1 d.ls.length r.2) d.ls
set_option maxHeartbeats 1000000 in
theorem shift_any (d : Drw) (p r : Option Addr × Nat) (bv : Value) (q : Pt) (w : World) (hr : RdD w p r d) (hb : cPt bv q) (hf : d.Fit q) : Calls Tryd.prog 50 #[dVal p r d, bv] w (RetD w (d.shift q)) := by
  obtain ⟨h1, h2⟩ := hr
  obtain ⟨A, ca, srows, e1, hA, hs, _⟩ := h1
  obtain ⟨B, cb, lrows, e2, hB, hl, _⟩ := h2
  injection e1 with e1 _ e3
  injection e2 with e4 _ e5
  obtain ⟨p1, p2⟩ := p
  obtain ⟨r1, r2⟩ := r
  simp only at e1 e3 e4 e5
  subst e1; subst e3; subst e4; subst e5
  obtain ⟨c0, c1, rfl, hd0, hd1⟩ := hb
  refine TC.calls (l := [dVal (p1, p2) (r1, r2) d, .complex .f64 c0 c1]) Tryd.func50 rfl Tryd.ntmps50 rfl (St.start w) ?_
  repeat' (first | ((apply T.ev_; exact rfl; apply Ev.makeFunc; exact rfl)) | (refine W1 ?_) | (refine W2 (fun hc => ?_) (fun hc => ?_)) | (intro _))
  rename_i b2 b3 b4
  refine T.callR (f := 64) rfl rfl (fun w' hw' => each_any d p1 r1 p2 r2 srows lrows b3 c0 c1 q w' (St.old_arr hw' hA) (hs.imp fun _ _ => St.old_rd RStr.rd hw') (St.old_arr hw' hB) (hl.imp fun _ _ => St.old_rd RLab.rd hw') (hw'.blk_cell (cs := [.complex .f64 c0 c1]) (i := 0) AtA rfl) hd0 hd1 hf.ss hf.ls hf.ps hf.pl) (fun x _ => ?_)
  repeat' (first | (refine W1 ?_) | (refine W2 (fun hc => ?_) (fun hc => ?_)) | (intro _))
  refine TX.ret_gen (rs := [.cell 4 30]) (vs := [dVal x.1 x.2 (d.shift q)]) rfl (.cell rfl (blk_res (cs := [.int .i64 d.w, .int .i64 d.up, .int .i64 d.dn, .slice x.1.1 (d.shift q).ss.length x.1.2, .slice x.2.1 (d.shift q).ls.length x.2.2]) AtA rfl) .nil) (fun w' hw => ?_)
  exact Ret.mk x trivial (.cons .here (.cons .here .nil)) hw

set_option maxHeartbeats 2000000 in
theorem put_any {w0 : World} {L0 : List HP} (b : Nat) (c0 c1 c2 : Value) (p r : Option Addr × Nat) (rows lrows : List (List Value)) (ss : List (List Pt)) (ls : List (Pt × ByteArray)) (k : Drw) (kp kr : Option Addr × Nat) (bv : Value) (q : Pt) (w : World)
    (hl : ss.length ≤ 1000000000) (hl2 : ls.length ≤ 1000000000) (hr : ∀ w', St w0 L0 w' → RdD w' kp kr k) (hb : cPt bv q) (hf : k.Fit q)
    (hw : St w0 (dBlk b c0 c1 c2 p r ss.length ls.length :: sOwn p ss.length rows :: hSt rows ss :: lOwn r ls.length lrows :: hLb lrows ls :: L0) w) :
    Calls Tryd.prog 27 #[.pointer (some ⟨b, 0, none⟩), dVal kp kr k, bv] w (fun e w' => ∃ x : ((Option Addr × Nat) × List (List Value)) × ((Option Addr × Nat) × List (List Value)), e = .returned (.tuple #[]) ∧
      St w0 (dBlk b c0 c1 c2 x.1.1 x.2.1 (ss ++ mvS q k.ss).length (ls ++ mvL q k.ls).length :: sOwn x.1.1 (ss ++ mvS q k.ss).length x.1.2 :: hSt x.1.2 (ss ++ mvS q k.ss) :: lOwn x.2.1 (ls ++ mvL q k.ls).length x.2.2 :: hLb x.2.2 (ls ++ mvL q k.ls) :: L0) w') := by
  refine TC.calls (l := [.pointer (some ⟨b, 0, none⟩), dVal kp kr k, bv]) (M := St w0 (dBlk b c0 c1 c2 p r ss.length ls.length :: sOwn p ss.length rows :: hSt rows ss :: lOwn r ls.length lrows :: hLb lrows ls :: L0)) Tryd.func27 rfl Tryd.ntmps27 rfl hw ?_
  repeat' (first | (refine W1 ?_) | (refine W2 (fun hc => ?_) (fun hc => ?_)) | (intro _))
  rename_i b4
  refine T.callR (f := 50) rfl rfl (fun w' hw' => shift_any k kp kr bv q w' (hr w' (hw'.drop 6)) hb hf) (fun x _ => ?_)
  repeat' (first | ((refine TC.holdR 2 ?_)) | (refine W1 ?_) | (refine W2 (fun hc => ?_) (fun hc => ?_)) | (intro _))
  rename_i b6
  refine ⟨?_⟩
  refine TC.ex (fun w hw => St.weakEx (fun S w h => hSl_open h) (St.del (H := hStrs (.slice x.1.1 (k.shift q).ss.length x.1.2) (k.shift q).ss) DelA hw)) (fun srows => ?_)
  refine TC.ex (fun w hw => St.weakEx (fun S w h => hSl_open h) (St.del (H := hLabs (.slice x.2.1 (k.shift q).ls.length x.2.2) (k.shift q).ls) DelA hw)) (fun lrs => ?_)
  have e1 : (k.shift q).ss.length = k.ss.length := by simp [Drw.shift, mvS]
  have e2 : (k.shift q).ls.length = k.ls.length := by simp [Drw.shift, mvL]
  have f1 := hf.ss
  have f2 := hf.ls
  refine TC.sub (M' := St w0 (dBlk b c0 c1 c2 p r ss.length ls.length :: sOwn p ss.length rows :: hSt rows ss :: lOwn r ls.length lrows :: hLb lrows ls :: hSr 1 RStr RStr.rd x.1.1 (k.shift q).ss.length srows (k.shift q).ss :: hSr 2 RLab RLab.rd x.2.1 (k.shift q).ls.length lrs (k.shift q).ls :: blk b6 [.int .i64 k.w, .int .i64 k.up, .int .i64 k.dn, .slice x.1.1 (k.shift q).ss.length x.1.2, .slice x.2.1 (k.shift q).ls.length x.2.2] 30 :: L0)) (fun w' hw => ?_) ?_
  · have g0 : St w0 (hSr 2 RLab RLab.rd x.2.1 (k.shift q).ls.length lrs (k.shift q).ls :: hSr 1 RStr RStr.rd x.1.1 (k.shift q).ss.length srows (k.shift q).ss :: blk b6 [.int .i64 k.w, .int .i64 k.up, .int .i64 k.dn, .slice x.1.1 (k.shift q).ss.length x.1.2, .slice x.2.1 (k.shift q).ls.length x.2.2] 30 :: blk b4 [.int .i64 k.w, .int .i64 k.up, .int .i64 k.dn, .slice kp.1 k.ss.length kp.2, .slice kr.1 k.ls.length kr.2] 30 :: dBlk b c0 c1 c2 p r ss.length ls.length :: sOwn p ss.length rows :: hSt rows ss :: lOwn r ls.length lrows :: hLb lrows ls :: L0) w' := hw
    exact St.inc IncQ g0
  apply TC.seq
  refine TC.lexT [] (.seg [0, 1, 2, 3, 4, 5, 6, 7, 8, 9, 10] .fin) mixed (by kernel_rfl) (TT.seg rfl ?_)
  repeat' (first | (refine W1 ?_) | (refine W2 (fun hc => ?_) (fun hc => ?_)) | (intro _))
  refine TL.loud rfl rfl (Ac.append (rows := rows) (news := srows) rfl rfl DelA (fun w hw => St.sr_arr (xs := (k.shift q).ss) (R := RStr) (hR := RStr.rd) hw AtA) (fun w hw => oneB_str (St.sr_all (A := x.1.1) (n := (k.shift q).ss.length) (xs := (k.shift q).ss) (R := RStr) (hR := RStr.rd) hw AtA)) (by unfold maxLen; omega) (by omega)) (fun p3 => ?_)
  obtain ⟨A3, c3⟩ := p3
  dsimp only
  repeat' (first | ((apply TX.tree)) | ((apply TT.fin)) | ((refine TC.lexT [] (.seg [0, 1, 2, 3, 4, 5, 6, 7, 8, 9, 10] .fin) mixed (by kernel_rfl) (TT.seg rfl ?_))) | (refine W1 ?_) | (refine W2 (fun hc => ?_) (fun hc => ?_)) | (intro _))
  refine TL.loud rfl rfl (Ac.append (rows := lrows) (news := lrs) rfl rfl DelA (fun w hw => St.sr_arr (xs := (k.shift q).ls) (R := RLab) (hR := RLab.rd) hw AtA) (fun w hw => oneB_lab (St.sr_all (A := x.2.1) (n := (k.shift q).ls.length) (xs := (k.shift q).ls) (R := RLab) (hR := RLab.rd) hw AtA)) (by unfold maxLen; omega) (by omega)) (fun p4 => ?_)
  obtain ⟨A4, c4⟩ := p4
  dsimp only
  repeat' (first | ((apply TX.tree)) | ((apply TT.fin)) | (refine W1 ?_) | (refine W2 (fun hc => ?_) (fun hc => ?_)) | (intro _))
  refine TX.end0 rfl (fun w' hw => ⟨(((A3, c3), rows ++ srows), ((A4, c4), lrows ++ lrs)), rfl, ?_⟩)
  have e3 : (ss ++ mvS q k.ss).length = ss.length + (k.shift q).ss.length := by rw [List.length_append]; rfl
  have e4 : (ls ++ mvL q k.ls).length = ls.length + (k.shift q).ls.length := by rw [List.length_append]; rfl
  rw [e3, e4]
  have g1 := St.del (H := hSr 1 RStr RStr.rd x.1.1 (k.shift q).ss.length srows (k.shift q).ss) DelA hw
  have g2 := St.weak (H := hSr 1 RStr RStr.rd x.1.1 (k.shift q).ss.length srows (k.shift q).ss) (H' := hSt srows (k.shift q).ss) (fun S w h => h.2) g1
  have g3 := St.del (H := hSt rows ss) DelA g2
  have g4 := St.join (K := hSt (rows ++ srows) (ss ++ (k.shift q).ss)) (fun S S' w h h' => hAll_app h h') g3
  have g5 := St.del (H := hSr 2 RLab RLab.rd x.2.1 (k.shift q).ls.length lrs (k.shift q).ls) DelA g4
  have g6 := St.weak (H := hSr 2 RLab RLab.rd x.2.1 (k.shift q).ls.length lrs (k.shift q).ls) (H' := hLb lrs (k.shift q).ls) (fun S w h => h.2) g5
  have g7 := St.del (H := hLb lrows ls) DelA g6
  have g8 := St.join (K := hLb (lrows ++ lrs) (ls ++ (k.shift q).ls)) (fun S S' w h h' => hAll_app h h') g7
  exact St.inc IncQ g8
end Go.Proofs.YtalnmednhhimhaaDoor
/- Drawings, walked: through, framed. -/
namespace Go.Bonsai
open Go Go.Sl Go.RowKit Go.Fl
/-- what is drawn is within, and not too much -/
structure Drw.Ok (K : Nat) (d : Drw) : Prop where
  in_ : d.In
  w : d.w ≤ K
  up : d.up ≤ K
  dn : d.dn ≤ K
  ss : d.ss.length ≤ K
  ls : d.ls.length ≤ K
  five : ∀ s ∈ d.ss, s.length ≤ 5
theorem Drw.Ok.fit {K : Nat} {k : Drw} {q : Pt} (h : k.Ok K) (hK : K ≤ 500000000) (h1 : q.1.natAbs ≤ 1000000000000) (h2 : q.2.natAbs ≤ 1000000000000) : k.Fit q := by
  have hw := h.w; have hu := h.up; have hd := h.dn; have hs := h.ss; have hl := h.ls
  refine ⟨by omega, by omega, fun s hs => ⟨by have := h.five s hs; omega, fun p hp => ?_⟩, fun l hl => ?_⟩
  · obtain ⟨a, b, c, e⟩ := (h.in_.ss s hs).2.2 p hp
    omega
  · obtain ⟨a, b, c, e⟩ := h.in_.ls l hl
    omega
end Go.Bonsai
namespace Go.Proofs.YtalnmednhhimhaaDoor
open Go Go.Sl Go.RowKit Go.Bonsai Go.Fl
set_option linter.unusedVariables false
set_option linter.unusedSimpArgs false
/-- a drawing of the call's own, to be drawn on -/
abbrev DX := ((Option Addr × Nat) × List (List Value)) × ((Option Addr × Nat) × List (List Value))
abbrev dPcs (x : DX) (d : Drw) : List HP := [sOwn x.1.1 d.ss.length x.1.2, hSt x.1.2 d.ss, lOwn x.2.1 d.ls.length x.2.2, hLb x.2.2 d.ls]
theorem RdD.old {w0 w : World} {L : List HP} {p r : Option Addr × Nat} {d : Drw} (h : RdD w0 p r d) (hw : St w0 L w) : RdD w p r d := ⟨St.old_sl RStr.rd hw h.1, St.old_sl RLab.rd hw h.2⟩

set_option maxHeartbeats 2000000 in
theorem through_any (y : Int) (s : ByteArray) (cv : Value) (k : Drw) (kp kr : Option Addr × Nat) (K : Nat) (w : World) (hc : cPt cv (2, y)) (hs : s.size ≤ 1000000000) (hr : RdD w kp kr k) (hk : k.Ok K) (hK : K ≤ 500000000) :
    Calls Tryd.prog 60 #[.agg #[cv, .string s], dVal kp kr k] w (Ret w (fun x : DX => .tuple #[dVal x.1.1 x.2.1 (throughD y s k), .int .i64 (wideD s k)]) (fun x => dPcs x (throughD y s k)) (fun _ => True)) := by
  obtain ⟨ca, cb, rfl, hca, hcb⟩ := hc
  refine TC.calls (l := [.agg #[.complex .f64 ca cb, .string s], dVal kp kr k]) Tryd.func60 rfl Tryd.ntmps60 rfl (St.start w) ?_
  have kw := hk.w; have ku := hk.up; have kd := hk.dn; have kw0 := hk.in_.w; have ku0 := hk.in_.up; have kd0 := hk.in_.dn; have ks := hk.ss; have kl := hk.ls
  have hwd : max k.w (s.size : Int) = wideD s k := rfl
  have hwb : 0 ≤ wideD s k ∧ wideD s k ≤ 1000000000 := by unfold wideD; omega
  repeat' (first | (refine W1 ?_) | (refine W2 (fun hc => ?_) (fun hc => ?_)) | (intro _))
  rename_i b2 b3 b4 BL B
  rw [hwd]
  refine T.ex (ι := Unit) (M' := fun _ => St w [own 56 1 (some ⟨B, 0, none⟩) 2 2 [[.complex .f64 0 0], [.complex .f64 4611686018427387904 0]], dBlk b4 (.int .i64 (wideD s k + 4)) (.int .i64 (k.up + 2)) (.int .i64 k.dn) (none, 0) (some ⟨BL, 0, none⟩, 1) 0 1, sOwn (none, 0) 0 [], hSt [] [], lOwn (some ⟨BL, 0, none⟩, 1) 1 [[.complex .f64 ca cb, .string s]], hLb [[.complex .f64 ca cb, .string s]] [((2, y), s)], blk b3 [.int .i64 k.w, .int .i64 k.up, .int .i64 k.dn, .slice kp.1 k.ss.length kp.2, .slice kr.1 k.ls.length kr.2] 30]) (fun w' hw => ⟨(), ?_⟩) (fun _ => ?_)
  · have g0 : St w (own 56 1 (some ⟨B, 0, none⟩) 2 2 [[.complex .f64 0 0], [.complex .f64 4611686018427387904 0]] :: lOwn (some ⟨BL, 0, none⟩, 1) 1 [[.complex .f64 ca cb, .string s]] :: dBlk b4 (.int .i64 (wideD s k + 4)) (.int .i64 (k.up + 2)) (.int .i64 k.dn) (none, 0) (some ⟨BL, 0, none⟩, 1) 0 1 :: blk b3 [.int .i64 k.w, .int .i64 k.up, .int .i64 k.dn, .slice kp.1 k.ss.length kp.2, .slice kr.1 k.ls.length kr.2] 30 :: _) w' := St.inc (L' := [own 56 1 (some ⟨B, 0, none⟩) 2 2 [[.complex .f64 0 0], [.complex .f64 4611686018427387904 0]], lOwn (some ⟨BL, 0, none⟩, 1) 1 [[.complex .f64 ca cb, .string s]], dBlk b4 (.int .i64 (wideD s k + 4)) (.int .i64 (k.up + 2)) (.int .i64 k.dn) (none, 0) (some ⟨BL, 0, none⟩, 1) 0 1, blk b3 [.int .i64 k.w, .int .i64 k.up, .int .i64 k.dn, .slice kp.1 k.ss.length kp.2, .slice kr.1 k.ls.length kr.2] 30]) IncA hw
    have g1 := St.dnil (St.push (H := hLb [[.complex .f64 ca cb, .string s]] [((2, y), s)]) g0 Chg.refl (All2.more ⟨_, rfl, _, _, rfl, hca, hcb⟩ .nil))
    exact St.inc IncQ g1
  refine T.callM (val := fun _ : (Option Addr × Nat) × List (List Value) => .tuple #[]) rfl rfl (fun w' hw' => stroke_lit b4 B _ _ _ (none, 0) (some ⟨BL, 0, none⟩, 1) 1 2 [] [] [.complex .f64 0 0, .complex .f64 4611686018427387904 0] [(0, 0), (2, 0)] w' rfl (by simp) (by simp) (All2.more c00 (All2.more c20 .nil)) hw') (fun x => ?_)
  repeat' (first | (refine W1 ?_) | (refine W2 (fun hc => ?_) (fun hc => ?_)) | (intro _))
  refine T.ex (ι := Unit) (M' := fun _ => St w [dBlk b4 (.int .i64 (wideD s k + 4)) (.int .i64 (k.up + 2)) (.int .i64 k.dn) x.1 (some ⟨BL, 0, none⟩, 1) ([[((0 : Int), (0 : Int)), (2, 0)]] : List (List Pt)).length ([((2, y), s)] : List (Pt × ByteArray)).length, sOwn x.1 ([[((0 : Int), (0 : Int)), (2, 0)]] : List (List Pt)).length x.2, hSt x.2 [[(0, 0), (2, 0)]], lOwn (some ⟨BL, 0, none⟩, 1) ([((2, y), s)] : List (Pt × ByteArray)).length [[.complex .f64 ca cb, .string s]], hLb [[.complex .f64 ca cb, .string s]] [((2, y), s)], blk b3 [.int .i64 k.w, .int .i64 k.up, .int .i64 k.dn, .slice kp.1 k.ss.length kp.2, .slice kr.1 k.ls.length kr.2] 30]) (fun w' hw => ⟨(), hw⟩) (fun _ => ?_)
  refine T.callM (f := 27) (val := fun _ : DX => .tuple #[]) rfl rfl (fun w' hw' => put_any b4 _ _ _ x.1 (some ⟨BL, 0, none⟩, 1) x.2 [[.complex .f64 ca cb, .string s]] [[(0, 0), (2, 0)]] [((2, y), s)] k kp kr _ (2, 0) w' (by simp) (by simp) (fun w'' h => hr.old h) c20 (hk.fit hK (by decide) (by decide)) hw') (fun z => ?_)
  repeat' (first | ((apply T.callV (f := 26); exact rfl; exact rfl; exact fun w' _ => point_any _ _ w' (fit53 (by omega)) (fit53 (by omega)))) | (refine W1 ?_) | (refine W2 (fun hc => ?_) (fun hc => ?_)) | (intro _))
  rename_i B5
  refine T.callM (val := fun _ : (Option Addr × Nat) × List (List Value) => .tuple #[]) rfl rfl (fun w' hw' => stroke_lit b4 B5 _ _ _ z.1.1 z.2.1 _ 2 z.1.2 ([[(0, 0), (2, 0)]] ++ mvS (2, 0) k.ss) [_, _] [(2 + k.w, 0), (wideD s k + 4, 0)] w' rfl (by simp [mvS]; omega) (by simp) (All2.more (cPt_point (fit53 (by omega)) (by decide)) (All2.more (cPt_point (fit53 (by omega)) (by decide)) .nil)) hw') (fun u => ?_)
  repeat' (first | (refine W1 ?_) | (refine W2 (fun hc => ?_) (fun hc => ?_)) | (intro _))
  refine TX.ret_gen (rs := [.cell 4 30, .tmp 5]) (vs := [dVal u.1 z.2.1 (throughD y s k), .int .i64 (wideD s k)]) rfl (.cell rfl (blk_res (cs := [.int .i64 (wideD s k + 4), .int .i64 (k.up + 2), .int .i64 k.dn, .slice u.1.1 (throughD y s k).ss.length u.1.2, .slice z.2.1.1 (throughD y s k).ls.length z.2.1.2]) AtA rfl) (.tmp rfl .nil)) (fun w' hw => ?_)
  exact Ret.mk ((u, z.2) : DX) trivial (by show Inc _ [sOwn _ _ _, hSt _ _, lOwn _ _ _, hLb _ _]; exact IncQ) hw
end Go.Proofs.YtalnmednhhimhaaDoor
/- Drawings, walked: framed, rep. -/
namespace Go.Proofs.YtalnmednhhimhaaDoor
open Go Go.Sl Go.RowKit Go.Bonsai Go.Fl
set_option linter.unusedVariables false
set_option linter.unusedSimpArgs false
set_option maxHeartbeats 2000000 in
theorem framed_any (s : ByteArray) (k : Drw) (kp kr : Option Addr × Nat) (K : Nat) (w : World) (hs : s.size ≤ 1000000000) (hr : RdD w kp kr k) (hk : k.Ok K) (hK : K ≤ 500000000) :
    Calls Tryd.prog 43 #[.string s, dVal kp kr k] w (RetD w (framedD s k)) := by
  refine TC.calls (l := [.string s, dVal kp kr k]) Tryd.func43 rfl Tryd.ntmps43 rfl (St.start w) ?_
  have kw := hk.w; have ku := hk.up; have kd := hk.dn; have kw0 := hk.in_.w; have ku0 := hk.in_.up; have kd0 := hk.in_.dn; have ks := hk.ss; have kl := hk.ls
  have hwb : 0 ≤ wideD s k ∧ wideD s k ≤ 1000000000 := by unfold wideD; omega
  have i1 : I64 (-(k.up + 1)) := by unfold I64; omega
  have i2 : I64 (-(k.up + 2)) := by unfold I64; omega
  have hct := fun w' (hw' : RdD w' kp kr k) => through_any (-(k.up + 1)) s _ k kp kr K w' (cPt_point (x := 2) (y := -(k.up + 1)) (by decide) (fit53 (by omega))) hs hw' hk hK
  have hT : framedD s k = { throughD (-(k.up + 1)) s k with dn := k.dn + 1, ss := (throughD (-(k.up + 1)) s k).ss ++ [boxP (wideD s k + 3) (-(k.up + 2)) (k.dn + 1)] } := rfl
  have hTw : (throughD (-(k.up + 1)) s k).w = wideD s k + 4 := rfl
  have hTu : (throughD (-(k.up + 1)) s k).up = k.up + 2 := rfl
  have hTd : (throughD (-(k.up + 1)) s k).dn = k.dn := rfl
  have hTs : (throughD (-(k.up + 1)) s k).ss.length ≤ 600000000 := by simp [throughD, mvS]; omega
  generalize throughD (-(k.up + 1)) s k = TD at *
  repeat' (first | ((refine TC.holdR 1 ?_)) | (refine W1 ?_) | (refine W2 (fun hc => ?_) (fun hc => ?_)) | (intro _))
  rename_i b3 b4
  refine ⟨?_⟩
  refine TC.cutA (ι := Nat × DX) (fun x r => (5, .pointer (some ⟨x.1, 0, none⟩)) :: (6, .int .i64 (wideD s k)) :: r)
    (fun x => St w [dBlk x.1 (.int .i64 TD.w) (.int .i64 TD.up) (.int .i64 TD.dn) x.2.1.1 x.2.2.1 TD.ss.length TD.ls.length, sOwn x.2.1.1 TD.ss.length x.2.1.2, hSt x.2.1.2 TD.ss, lOwn x.2.2.1 TD.ls.length x.2.2.2, hLb x.2.2.2 TD.ls, blk b3 [.int .i64 k.w, .int .i64 k.up, .int .i64 k.dn, .slice kp.1 k.ss.length kp.2, .slice kr.1 k.ls.length kr.2] 30, blk b4 [.int .i64 0, .int .i64 0, .int .i64 0, .slice none 0 0, .slice none 0 0] 30])
    KpA (TC.lexT [] (.seg [0, 1, 2, 3, 5, 7] (.both (.seg [4, 6] (.both (.seg [8, 9, 10, 11, 12, 13, 14] .fin) (.seg [12, 8, 9, 10, 11, 13, 14] .fin))) (.seg [12, 4, 6, 8, 9, 10, 11, 13, 14] .fin))) mixed (by kernel_rfl) (TT.seg rfl ?_)) (fun x => ?_)
  · repeat' (first | ((apply TL.keep (d := 5); exact rfl; exact rfl; exact (fun _ h => by first | exact h | exact h.drop 4); exact Ac.alloc rfl; exact (fun _ _ h => by first | exact h.drop 1 | exact h.drop 5))) | ((apply TX.tree)) | ((apply TT.both)) | ((apply TT.seg; exact rfl)) | ((apply TT.fin)) | ((apply TL.pure_; exact rfl; exact rfl; apply Ev.neg; exact rfl; assumption)) | ((apply TL.kcallV (d := 12) (f := 26); exact rfl; (intro w' _; exact point_any 2 _ w' (by decide) (fit53 (by omega))); exact rfl; exact rfl; exact DropA)) | ((apply TL.kcallR (d := 16) (f := 60); exact rfl; (intro w' hw'; exact hct w' (hr.old hw')); exact rfl; exact rfl; exact DropA)) | (refine W1 ?_) | (refine W2 (fun hc => ?_) (fun hc => ?_)) | (intro _))
    all_goals (apply TX.join (_, by assumption); exact SubA; exact fun w' hw => St.inc IncQ hw)
  obtain ⟨b5, x⟩ := x
  dsimp only
  rw [hTw, hTu, hTd]
  repeat' (first | (refine W1 ?_) | (refine W2 (fun hc => ?_) (fun hc => ?_)) | (intro _))
  refine T.ex (ι := Unit) (M' := fun _ => St w [dBlk b5 (.int .i64 (wideD s k + 4)) (.int .i64 (k.up + 2)) (.int .i64 (k.dn + 1)) x.1.1 x.2.1 TD.ss.length TD.ls.length, sOwn x.1.1 TD.ss.length x.1.2, hSt x.1.2 TD.ss, lOwn x.2.1 TD.ls.length x.2.2, hLb x.2.2 TD.ls, blk b3 [.int .i64 k.w, .int .i64 k.up, .int .i64 k.dn, .slice kp.1 k.ss.length kp.2, .slice kr.1 k.ls.length kr.2] 30, blk b4 [.int .i64 0, .int .i64 0, .int .i64 0, .slice none 0 0, .slice none 0 0] 30]) (fun w' hw => ⟨(), hw⟩) (fun _ => ?_)
  repeat' (first | ((apply T.ev_; exact rfl; apply Ev.neg; exact rfl; assumption)) | (refine W1 ?_) | (refine W2 (fun hc => ?_) (fun hc => ?_)) | (intro _))
  refine T.callM (f := 55) (val := fun _ : (Option Addr × Nat) × List (List Value) => .tuple #[]) rfl rfl (fun w' hw' => box_any b5 _ _ _ x.1.1 x.2.1 TD.ls.length x.1.2 TD.ss (wideD s k + 3) (-(k.up + 2)) (k.dn + 1) w' (fit53 (by omega)) (fit53 (by omega)) (fit53 (by omega)) (by omega) hw') (fun u => ?_)
  repeat' (first | (refine W1 ?_) | (refine W2 (fun hc => ?_) (fun hc => ?_)) | (intro _))
  refine TX.ret_gen (rs := [.cell 4 30]) (vs := [.agg #[.int .i64 (wideD s k + 4), .int .i64 (k.up + 2), .int .i64 (k.dn + 1), .slice u.1.1 (TD.ss ++ [boxP (wideD s k + 3) (-(k.up + 2)) (k.dn + 1)]).length u.1.2, .slice x.2.1.1 TD.ls.length x.2.1.2]]) rfl (.cell rfl (blk_res (cs := [.int .i64 (wideD s k + 4), .int .i64 (k.up + 2), .int .i64 (k.dn + 1), .slice u.1.1 (TD.ss ++ [boxP (wideD s k + 3) (-(k.up + 2)) (k.dn + 1)]).length u.1.2, .slice x.2.1.1 TD.ls.length x.2.1.2]) AtA rfl) .nil) (fun w' hw => ?_)
  have g := dret (d := ⟨wideD s k + 4, k.up + 2, k.dn + 1, TD.ss ++ [boxP (wideD s k + 3) (-(k.up + 2)) (k.dn + 1)], TD.ls⟩) (p := u.1) (q := x.2.1) (rows := u.2) (lrows := x.2.2) (St.inc IncQ hw)
  have e : framedD s k = ⟨wideD s k + 4, k.up + 2, k.dn + 1, TD.ss ++ [boxP (wideD s k + 3) (-(k.up + 2)) (k.dn + 1)], TD.ls⟩ := by rw [hT]; simp only [hTw, hTu]
  rw [e]
  exact g
end Go.Proofs.YtalnmednhhimhaaDoor
/- Drawings, walked: a Seq. -/
namespace Go.Bonsai
open Go Go.Sl Go.RowKit Go.Fl
theorem RDr.open_ {S : Nat → Prop} {w : World} {cs : List Value} {d : Drw} (h : RDr S w cs d) : ∃ p r : Option Addr × Nat, cs = [.int .i64 d.w, .int .i64 d.up, .int .i64 d.dn, .slice p.1 d.ss.length p.2, .slice r.1 d.ls.length r.2] ∧ RSl 1 RStr S w (.slice p.1 d.ss.length p.2) d.ss ∧ RSl 2 RLab S w (.slice r.1 d.ls.length r.2) d.ls := by
  obtain ⟨sv, lv, rfl, h1, h2⟩ := h
  have g1 := h1; have g2 := h2
  obtain ⟨A, c, _, rfl, _⟩ := h1
  obtain ⟨B, b, _, rfl, _⟩ := h2
  exact ⟨(A, c), (B, b), rfl, g1, g2⟩
/-- ahead of a further kid of a Seq -/
def seqE (i : Nat) (d : Drw) : Drw := if i = 0 then d else ⟨d.w + 2, d.up, d.dn, d.ss ++ [[(d.w, 0), (d.w + 2, 0)]], d.ls⟩
theorem seqD_step {l : List Drw} {i : Nat} {k : Drw} (h : l.take (i + 1) = l.take i ++ [k]) (hi : i < l.length) : seqD (l.take (i + 1)) = ⟨(seqE i (seqD (l.take i))).w + k.w, max (seqE i (seqD (l.take i))).up k.up, max (seqE i (seqD (l.take i))).dn k.dn, (seqE i (seqD (l.take i))).ss ++ mvS ((seqE i (seqD (l.take i))).w, 0) k.ss, (seqE i (seqD (l.take i))).ls ++ mvL ((seqE i (seqD (l.take i))).w, 0) k.ls⟩ := by
  rw [h]
  cases hl : l.take i with
  | nil =>
    have : i = 0 := by
      have := congrArg List.length hl
      rw [List.length_take, List.length_nil] at this
      omega
    subst this
    rfl
  | cons x r =>
    have hi0 : i ≠ 0 := by rintro rfl; simp at hl
    simp only [List.cons_append, seqD, List.foldl_append, List.foldl_cons, List.foldl_nil]
    generalize List.foldl seqD1 (seqD0 x) r = D
    simp only [seqE, if_neg hi0, seqD1]
end Go.Bonsai
namespace Go.Proofs.YtalnmednhhimhaaDoor
open Go Go.Sl Go.RowKit Go.Bonsai Go.Fl
set_option linter.unusedVariables false
set_option linter.unusedSimpArgs false
set_option maxHeartbeats 4000000 in
theorem seq_any (n : Nod) (kv : Value) (l : List Drw) (A : Option Addr) (c K : Nat) (w : World) (hr : RSl 5 RDr (Old w) w (.slice A l.length c) l) (hl : l.length ≤ 1000000) (hk : ∀ k ∈ l, k.Ok K) (hp : ∀ i, i ≤ l.length → (seqD (l.take i)).Ok K) (hK : K ≤ 100000000) :
    Calls Tryd.prog 39 #[.agg (n.cells kv).toArray, .slice A l.length c] w (RetD w (seqD l)) := by
  obtain ⟨A', c', krows, e, hA, hrows, _⟩ := hr
  injection e with e1 _ e3
  subst e1; subst e3
  refine TC.calls (l := [.agg (n.cells kv).toArray, .slice A l.length c]) Tryd.func39 rfl Tryd.ntmps39 rfl (St.start w) ?_
  repeat' (first | (refine W1 ?_) | (refine W2 (fun hc => ?_) (fun hc => ?_)) | (intro _))
  rename_i b2 b4 b5
  refine TC.loopA (ι := Nat × DX) (0, (((none, 0), []), ((none, 0), []))) (fun k r => (10, .int .i64 k.1) :: r)
    (fun k => St w [dBlk b5 (.int .i64 (seqD (l.take k.1)).w) (.int .i64 (seqD (l.take k.1)).up) (.int .i64 (seqD (l.take k.1)).dn) k.2.1.1 k.2.2.1 (seqD (l.take k.1)).ss.length (seqD (l.take k.1)).ls.length, sOwn k.2.1.1 (seqD (l.take k.1)).ss.length k.2.1.2, hSt k.2.1.2 (seqD (l.take k.1)).ss, lOwn k.2.2.1 (seqD (l.take k.1)).ls.length k.2.2.2, hLb k.2.2.2 (seqD (l.take k.1)).ls, blk b4 [.int .i64 0, .int .i64 0, .int .i64 0, .slice none 0 0, .slice none 0 0] 30])
    (fun k => k.1 ≤ l.length) (fun k => l.length - k.1) KpA SubA (fun w' hw => ?_) (Nat.zero_le _) ?_
  · have g0 : St w (dBlk b5 (.int .i64 0) (.int .i64 0) (.int .i64 0) (none, 0) (none, 0) 0 0 :: blk b4 [.int .i64 0, .int .i64 0, .int .i64 0, .slice none 0 0, .slice none 0 0] 30 :: _) w' := hw
    have g1 := St.dnil (St.lnil g0)
    exact St.inc (L' := [dBlk b5 (.int .i64 0) (.int .i64 0) (.int .i64 0) (none, 0) (none, 0) 0 0, sOwn (none, 0) 0 [], hSt [] [], lOwn (none, 0) 0 [], hLb [] [], blk b4 [.int .i64 0, .int .i64 0, .int .i64 0, .slice none 0 0, .slice none 0 0] 30]) IncQ g1
  rintro ⟨i, x⟩ hi
  simp only at hi ⊢
  by_cases hlt : i < l.length
  · have hck : decide ((i : Int) < (l.length : Int)) = true := by simp [hlt]
    have hgx : l[i]? = some l[i] := List.getElem?_eq_getElem hlt
    have hmem := List.getElem_mem hlt
    have htk : l.take (i + 1) = l.take i ++ [l[i]] := List.take_succ_eq_append_getElem hlt
    have hst := seqD_step htk hlt
    have hD := hp i hi
    have hN := hp (i + 1) hlt
    have hx := hk _ hmem
    generalize l[i] = k at *
    generalize seqD (l.take i) = D at *
    obtain ⟨cs, hcs, hcr⟩ := hrows.get hgx
    obtain ⟨kp, kr, rfl, hk1, hk2⟩ := hcr.open_
    have hkr : RdD w kp kr k := ⟨hk1, hk2⟩
    have hA' : A = some (A.getD default) := hA.some_ (by omega)
    have kw := hx.w; have ku := hx.up; have kd := hx.dn; have kw0 := hx.in_.w; have ku0 := hx.in_.up; have kd0 := hx.in_.dn; have ks := hx.ss; have kl := hx.ls
    have dw := hD.w; have du := hD.up; have dd := hD.dn; have dw0 := hD.in_.w; have du0 := hD.in_.up; have dd0 := hD.in_.dn; have ds := hD.ss; have dl := hD.ls
    have hE : (seqE i D).w ≤ K + 2 ∧ 0 ≤ (seqE i D).w ∧ (seqE i D).up = D.up ∧ (seqE i D).dn = D.dn ∧ (seqE i D).ls = D.ls ∧ (seqE i D).ss.length ≤ K + 1 := by
      unfold seqE
      split
      · exact ⟨by omega, dw0, rfl, rfl, rfl, by omega⟩
      · exact ⟨by simp only; omega, by simp only; omega, rfl, rfl, rfl, by simp; omega⟩
    obtain ⟨E1, E2, E3, E4, E5, E6⟩ := hE
    repeat' (first | ((refine TC.hold 5 ?_)) | (refine W1 ?_) | (refine W2 (fun hc => ?_) (fun hc => ?_)) | (intro _))
    rename_i b7
    refine ⟨TC.cutA (ι := (Option Addr × Nat) × List (List Value)) (fun _ r => r) (fun y => St w [dBlk b5 (.int .i64 (seqE i D).w) (.int .i64 (seqE i D).up) (.int .i64 (seqE i D).dn) y.1 x.2.1 (seqE i D).ss.length (seqE i D).ls.length, sOwn y.1 (seqE i D).ss.length y.2, hSt y.2 (seqE i D).ss, lOwn x.2.1 (seqE i D).ls.length x.2.2, hLb x.2.2 (seqE i D).ls, blk b7 [.int .i64 k.w, .int .i64 k.up, .int .i64 k.dn, .slice kp.1 k.ss.length kp.2, .slice kr.1 k.ls.length kr.2] 30, blk b4 [.int .i64 0, .int .i64 0, .int .i64 0, .slice none 0 0, .slice none 0 0] 30]) KpA ?_ (fun y => ?_)⟩
    · by_cases hi0 : i = 0
      · have hc0 : decide (0 < (i : Int)) = false := by rw [hi0]; rfl
        have e : seqE i D = D := by unfold seqE; rw [if_pos hi0]
        rw [e]
        repeat' (first | (refine W1 ?_) | (refine W2 (fun hc => ?_) (fun hc => ?_)) | (intro _))
        exact TX.join x.1 SubA (fun w' hw => St.inc IncQ hw)
      · have hc0 : decide (0 < (i : Int)) = true := decide_eq_true (by omega)
        have e : seqE i D = ⟨D.w + 2, D.up, D.dn, D.ss ++ [[(D.w, 0), (D.w + 2, 0)]], D.ls⟩ := by unfold seqE; rw [if_neg hi0]
        rw [e]
        repeat' (first | ((refine TC.lexT [(8, .loud)] (.seg [0, 1, 3, 4, 5, 2, 6, 7, 8] .fin) mixed (by kernel_rfl) (TT.seg rfl ?_))) | ((apply TL.kcallV (d := 19) (f := 26); exact rfl; (intro w' _; exact point_any _ _ w' (fit53 (by omega)) (by decide)); exact rfl; exact rfl; exact DropA)) | ((apply TL.kcallV (d := 23) (f := 26); exact rfl; (intro w' _; exact point_any _ _ w' (fit53 (by omega)) (by decide)); exact rfl; exact rfl; exact DropA)) | (refine W1 ?_) | (refine W2 (fun hc => ?_) (fun hc => ?_)) | (intro _))
        rename_i B
        refine TL.lcall rfl rfl (Cl.callM (f := 54) (val := fun _ : (Option Addr × Nat) × List (List Value) => .tuple #[]) rfl (fun w' hw' => stroke_lit b5 B _ _ _ x.1.1 x.2.1 _ 2 x.1.2 D.ss [.complex .f64 (FloatKind.f64.nearest D.w) (FloatKind.f64.nearest 0), .complex .f64 (FloatKind.f64.nearest (D.w + 2)) (FloatKind.f64.nearest 0)] [(D.w, 0), (D.w + 2, 0)] w' rfl (by omega) (by simp) (All2.more (cPt_point (fit53 (by omega)) (by decide)) (All2.more (cPt_point (fit53 (by omega)) (by decide)) .nil)) (L0 := [lOwn x.2.1 D.ls.length x.2.2, hLb x.2.2 D.ls, blk b7 [.int .i64 k.w, .int .i64 k.up, .int .i64 k.dn, .slice kp.1 k.ss.length kp.2, .slice kr.1 k.ls.length kr.2] 30, blk b4 [.int .i64 0, .int .i64 0, .int .i64 0, .slice none 0 0, .slice none 0 0] 30]) (by
          have g0 : St w [own 56 1 (some ⟨B, 0, none⟩) 2 2 [[.complex .f64 (FloatKind.f64.nearest D.w) (FloatKind.f64.nearest 0)], [.complex .f64 (FloatKind.f64.nearest (D.w + 2)) (FloatKind.f64.nearest 0)]], blk b7 [.int .i64 k.w, .int .i64 k.up, .int .i64 k.dn, .slice kp.1 k.ss.length kp.2, .slice kr.1 k.ls.length kr.2] 30, dBlk b5 (.int .i64 D.w) (.int .i64 D.up) (.int .i64 D.dn) x.1.1 x.2.1 D.ss.length D.ls.length, sOwn x.1.1 D.ss.length x.1.2, hSt x.1.2 D.ss, lOwn x.2.1 D.ls.length x.2.2, hLb x.2.2 D.ls, blk b4 [.int .i64 0, .int .i64 0, .int .i64 0, .slice none 0 0, .slice none 0 0] 30] w' := hw'
          have g1 : St w [own 56 1 (some ⟨B, 0, none⟩) 2 2 [[.complex .f64 (FloatKind.f64.nearest D.w) (FloatKind.f64.nearest 0)], [.complex .f64 (FloatKind.f64.nearest (D.w + 2)) (FloatKind.f64.nearest 0)]], dBlk b5 (.int .i64 D.w) (.int .i64 D.up) (.int .i64 D.dn) x.1.1 x.2.1 D.ss.length D.ls.length, sOwn x.1.1 D.ss.length x.1.2, hSt x.1.2 D.ss, lOwn x.2.1 D.ls.length x.2.2, hLb x.2.2 D.ls, blk b7 [.int .i64 k.w, .int .i64 k.up, .int .i64 k.dn, .slice kp.1 k.ss.length kp.2, .slice kr.1 k.ls.length kr.2] 30, blk b4 [.int .i64 0, .int .i64 0, .int .i64 0, .slice none 0 0, .slice none 0 0] 30] w' := St.inc IncQ g0
          exact g1))) (fun u => ?_)
        repeat' (first | ((apply TX.tree)) | ((apply TT.fin)) | (refine W1 ?_) | (refine W2 (fun hc => ?_) (fun hc => ?_)) | (intro _))
        exact TX.join u SubA (fun w' hw => St.inc IncQ hw)
    rw [E5]
    repeat' (first | ((refine TC.lexT [(4, .loud)] (.seg [0, 1, 2, 3, 4] .fin) mixed (by kernel_rfl) (TT.seg rfl ?_))) | ((apply TL.kcallV (d := 33) (f := 26); exact rfl; (intro w' _; exact point_any _ _ w' (fit53 (by omega)) (by decide)); exact rfl; exact rfl; exact DropA)) | (refine W1 ?_) | (refine W2 (fun hc => ?_) (fun hc => ?_)) | (intro _))
    refine TL.lcall rfl rfl (Cl.callM (f := 27) (val := fun _ : DX => .tuple #[]) rfl (fun w' hw' => put_any b5 _ _ _ y.1 x.2.1 y.2 x.2.2 (seqE i D).ss D.ls k kp kr _ ((seqE i D).w, 0) w' (by omega) (by omega) (fun w'' h => hkr.old h) (cPt_point (fit53 (by omega)) (by decide)) (hx.fit (by omega) (by simp only; omega) (by simp)) (St.inc IncQ hw'))) (fun u => ?_)
    repeat' (first | ((apply TX.tree)) | ((apply TT.fin)) | (refine W1 ?_) | (refine W2 (fun hc => ?_) (fun hc => ?_)) | (intro _))
    refine TX.round (i + 1, u) hlt (show l.length - (i + 1) < l.length - i by omega) SubA (fun w' hw => ?_)
    rw [E5] at hst
    dsimp only
    rw [hst]
    exact St.inc IncQ hw
  have hck : decide ((i : Int) < (l.length : Int)) = false := by simp; omega
  obtain rfl : i = l.length := by omega
  rw [List.take_of_length_le (Nat.le_refl _)]
  generalize seqD l = D
  repeat' (first | (refine W1 ?_) | (refine W2 (fun hc => ?_) (fun hc => ?_)) | (intro _))
  refine TX.ret_gen (rs := [.cell 4 30]) (vs := [dVal x.1.1 x.2.1 D]) rfl (.cell rfl (blk_res (cs := [.int .i64 D.w, .int .i64 D.up, .int .i64 D.dn, .slice x.1.1.1 D.ss.length x.1.1.2, .slice x.2.1.1 D.ls.length x.2.1.2]) AtA rfl) .nil) (fun w' hw => ?_)
  exact dret (d := D) (p := x.1.1) (q := x.2.1) (rows := x.1.2) (lrows := x.2.2) (St.inc IncQ hw)
end Go.Proofs.YtalnmednhhimhaaDoor
/- Drawings, walked: a Choice. -/
namespace Go.Bonsai
theorem widest_snoc (l : List Drw) (k : Drw) : widest (l ++ [k]) = max (widest l) k.w := by unfold widest; rw [List.foldl_append]; rfl
theorem choDw_one (wd : Int) (k : Drw) : choDw wd [k] = choD0 wd k := rfl
theorem choDw_snoc (wd : Int) {l : List Drw} (h : l ≠ []) (k : Drw) : choDw wd (l ++ [k]) = choD1 wd (choDw wd l) k := by
  cases l with
  | nil => exact absurd rfl h
  | cons x r => simp only [List.cons_append, choDw, List.foldl_append, List.foldl_cons, List.foldl_nil]
end Go.Bonsai
namespace Go.Proofs.YtalnmednhhimhaaDoor
open Go Go.Sl Go.RowKit Go.Bonsai Go.Fl
set_option linter.unusedVariables false
set_option linter.unusedSimpArgs false
set_option maxHeartbeats 4000000 in
theorem choice_any (n : Nod) (kv : Value) (l : List Drw) (A : Option Addr) (c K : Nat) (w : World) (hr : RSl 5 RDr (Old w) w (.slice A l.length c) l) (hl : l.length ≤ 1000000) (hk : ∀ k ∈ l, k.Ok K) (hwd : widest l ≤ K) (hp : ∀ i, i ≤ l.length → 0 < i → (choDw (widest l) (l.take i)).Ok K) (hK : K ≤ 100000000) :
    Calls Tryd.prog 40 #[.agg (n.cells kv).toArray, .slice A l.length c] w (RetD w (choD l)) := by
  obtain ⟨A', c', krows, e, hA, hrows, _⟩ := hr
  injection e with e1 _ e3
  subst e1; subst e3
  refine TC.calls (l := [.agg (n.cells kv).toArray, .slice A l.length c]) Tryd.func40 rfl Tryd.ntmps40 rfl (St.start w) ?_
  repeat' (first | (refine W1 ?_) | (refine W2 (fun hc => ?_) (fun hc => ?_)) | (intro _))
  rename_i b2 b4
  refine TC.loopA (ι := Nat) 0 (fun k r => (14, .int .i64 k) :: (5, .int .i64 (widest (l.take k))) :: r) (fun _ => St w [blk b4 [.int .i64 0, .int .i64 0, .int .i64 0, .slice none 0 0, .slice none 0 0] 30])
    (fun k => k ≤ l.length) (fun k => l.length - k) KpA SubA (fun w' hw => St.inc IncQ hw) (Nat.zero_le _) ?_
  intro i hi
  by_cases hlt : i < l.length
  · have hck : decide ((i : Int) < (l.length : Int)) = true := by simp [hlt]
    have hgx : l[i]? = some l[i] := List.getElem?_eq_getElem hlt
    have htk : l.take (i + 1) = l.take i ++ [l[i]] := List.take_succ_eq_append_getElem hlt
    have hws : widest (l.take (i + 1)) = max (widest (l.take i)) l[i].w := by rw [htk, widest_snoc]
    generalize l[i] = k at *
    obtain ⟨cs, hcs, hcr⟩ := hrows.get hgx
    obtain ⟨kp, kr, rfl, hk1, hk2⟩ := hcr.open_
    have hA' : A = some (A.getD default) := hA.some_ (by omega)
    repeat' (first | (refine W1 ?_) | (refine W2 (fun hc => ?_) (fun hc => ?_)) | (intro _))
    refine TX.round (i + 1) hlt (show l.length - (i + 1) < l.length - i by omega) ?_ (fun w' hw => St.inc IncQ hw)
    rw [hws]
    exact SubA
  have hck : decide ((i : Int) < (l.length : Int)) = false := by simp; omega
  obtain rfl : i = l.length := by omega
  rw [List.take_of_length_le (Nat.le_refl _)]

  have hw0 : 0 ≤ widest l := (widest_ge l 0).1
  have hwk : ∀ k ∈ l, k.w ≤ widest l := (widest_ge l 0).2
  have hch : choD l = choDw (widest l) l := rfl
  rw [hch]
  generalize widest l = wd at *
  repeat' (first | (refine W1 ?_) | (refine W2 (fun hc => ?_) (fun hc => ?_)) | (intro _))
  rename_i b8
  refine TC.loopA (ι := Nat × DX) (0, (((none, 0), []), ((none, 0), []))) (fun k r => (28, .int .i64 k.1) :: r)
    (fun k => St w [dBlk b8 (.int .i64 (choDw wd (l.take k.1)).w) (.int .i64 (choDw wd (l.take k.1)).up) (.int .i64 (choDw wd (l.take k.1)).dn) k.2.1.1 k.2.2.1 (choDw wd (l.take k.1)).ss.length (choDw wd (l.take k.1)).ls.length, sOwn k.2.1.1 (choDw wd (l.take k.1)).ss.length k.2.1.2, hSt k.2.1.2 (choDw wd (l.take k.1)).ss, lOwn k.2.2.1 (choDw wd (l.take k.1)).ls.length k.2.2.2, hLb k.2.2.2 (choDw wd (l.take k.1)).ls, blk b4 [.int .i64 0, .int .i64 0, .int .i64 0, .slice none 0 0, .slice none 0 0] 30]) (fun k => k.1 ≤ l.length) (fun k => l.length - k.1) KpA SubA (fun w' hw => ?_) (Nat.zero_le _) ?_
  · have g0 : St w (dBlk b8 (.int .i64 (wd + 4)) (.int .i64 0) (.int .i64 0) (none, 0) (none, 0) 0 0 :: blk b4 [.int .i64 0, .int .i64 0, .int .i64 0, .slice none 0 0, .slice none 0 0] 30 :: _) w' := hw
    have g1 := St.dnil (St.lnil g0)
    exact St.inc (L' := [dBlk b8 (.int .i64 (wd + 4)) (.int .i64 0) (.int .i64 0) (none, 0) (none, 0) 0 0, sOwn (none, 0) 0 [], hSt [] [], lOwn (none, 0) 0 [], hLb [] [], blk b4 [.int .i64 0, .int .i64 0, .int .i64 0, .slice none 0 0, .slice none 0 0] 30]) IncQ g1
  rintro ⟨i, x⟩ hi
  simp only at hi ⊢
  by_cases hlt : i < l.length
  · have hck : decide ((i : Int) < (l.length : Int)) = true := by simp [hlt]
    have hgx : l[i]? = some l[i] := List.getElem?_eq_getElem hlt
    have hmem := List.getElem_mem hlt
    have htk : l.take (i + 1) = l.take i ++ [l[i]] := List.take_succ_eq_append_getElem hlt
    have hx := hk _ hmem
    have hxw := hwk _ hmem
    generalize l[i] = k at *
    obtain ⟨cs, hcs, hcr⟩ := hrows.get hgx
    obtain ⟨kp, kr, rfl, hk1, hk2⟩ := hcr.open_
    have hkr : RdD w kp kr k := ⟨hk1, hk2⟩
    have hA' : A = some (A.getD default) := hA.some_ (by omega)
    have kw := hx.w; have ku := hx.up; have kd := hx.dn; have kw0 := hx.in_.w; have ku0 := hx.in_.up; have kd0 := hx.in_.dn; have ks := hx.ss; have kl := hx.ls
    by_cases hi0 : i = 0
    · subst hi0
      have hst : choDw wd (l.take (0 + 1)) = choD0 wd k := by rw [htk]; rfl
      have hst0 : choDw wd (l.take 0) = ⟨wd + 4, 0, 0, [], []⟩ := rfl
      rw [hst0]
      dsimp only
      have hc0 : decide (((0 : Nat) : Int) = 0) = true := rfl
      repeat' (first | (refine W1 ?_) | (refine W2 (fun hc => ?_) (fun hc => ?_)) | (intro _))
      rename_i b11 B
      refine T.callM (f := 54) (val := fun _ : (Option Addr × Nat) × List (List Value) => .tuple #[]) rfl rfl (fun w' hw' => stroke_lit b8 B _ _ _ x.1.1 x.2.1 _ 2 x.1.2 ([] : List (List Pt)) [.complex .f64 0 0, .complex .f64 4611686018427387904 0] [(0, 0), (2, 0)] w' rfl (by simp) (by simp) (All2.more c00 (All2.more c20 .nil)) (L0 := [lOwn x.2.1 ([] : List (Pt × ByteArray)).length x.2.2, hLb x.2.2 ([] : List (Pt × ByteArray)), blk b11 [.int .i64 k.w, .int .i64 k.up, .int .i64 k.dn, .slice kp.1 k.ss.length kp.2, .slice kr.1 k.ls.length kr.2] 30, blk b4 [.int .i64 0, .int .i64 0, .int .i64 0, .slice none 0 0, .slice none 0 0] 30]) (by
      have g0 : St w [own 56 1 (some ⟨B, 0, none⟩) 2 2 [[.complex .f64 0 0], [.complex .f64 4611686018427387904 0]], blk b11 [.int .i64 k.w, .int .i64 k.up, .int .i64 k.dn, .slice kp.1 k.ss.length kp.2, .slice kr.1 k.ls.length kr.2] 30, dBlk b8 (.int .i64 (wd + 4)) (.int .i64 k.up) (.int .i64 0) x.1.1 x.2.1 ([] : List (List Pt)).length ([] : List (Pt × ByteArray)).length, sOwn x.1.1 ([] : List (List Pt)).length x.1.2, hSt x.1.2 ([] : List (List Pt)), lOwn x.2.1 ([] : List (Pt × ByteArray)).length x.2.2, hLb x.2.2 ([] : List (Pt × ByteArray)), blk b4 [.int .i64 0, .int .i64 0, .int .i64 0, .slice none 0 0, .slice none 0 0] 30] w' := hw'
      have g1 : St w [own 56 1 (some ⟨B, 0, none⟩) 2 2 [[.complex .f64 0 0], [.complex .f64 4611686018427387904 0]], dBlk b8 (.int .i64 (wd + 4)) (.int .i64 k.up) (.int .i64 0) x.1.1 x.2.1 ([] : List (List Pt)).length ([] : List (Pt × ByteArray)).length, sOwn x.1.1 ([] : List (List Pt)).length x.1.2, hSt x.1.2 ([] : List (List Pt)), lOwn x.2.1 ([] : List (Pt × ByteArray)).length x.2.2, hLb x.2.2 ([] : List (Pt × ByteArray)), blk b11 [.int .i64 k.w, .int .i64 k.up, .int .i64 k.dn, .slice kp.1 k.ss.length kp.2, .slice kr.1 k.ls.length kr.2] 30, blk b4 [.int .i64 0, .int .i64 0, .int .i64 0, .slice none 0 0, .slice none 0 0] 30] w' := St.inc IncQ g0
      exact g1)) (fun u1 => ?_)
      repeat' (first | (refine W1 ?_) | (refine W2 (fun hc => ?_) (fun hc => ?_)) | (intro _))
      refine T.callM (f := 27) (val := fun _ : DX => .tuple #[]) rfl rfl (fun w' hw' => put_any b8 _ _ _ u1.1 x.2.1 u1.2 x.2.2 ([] ++ [[(0, 0), (2, 0)]]) [] k kp kr _ (2, 0) w' (by simp) (by simp) (fun w'' h => hkr.old h) c20 (hx.fit (by omega) (by decide) (by decide)) hw') (fun u2 => ?_)
      repeat' (first | ((apply T.callV (f := 26); exact rfl; exact rfl; exact fun w' _ => point_any _ _ w' (fit53 (by omega)) (fit53 (by omega)))) | (refine W1 ?_) | (refine W2 (fun hc => ?_) (fun hc => ?_)) | (intro _))
      rename_i B2
      refine T.callM (f := 54) (val := fun _ : (Option Addr × Nat) × List (List Value) => .tuple #[]) rfl rfl (fun w' hw' => stroke_lit b8 B2 _ _ _ u2.1.1 u2.2.1 _ 2 u2.1.2 ([] ++ [[((0 : Int), (0 : Int)), (2, 0)]] ++ mvS (2, 0) k.ss) [.complex .f64 (FloatKind.f64.nearest (2 + k.w)) (FloatKind.f64.nearest 0), .complex .f64 (FloatKind.f64.nearest (wd + 4)) (FloatKind.f64.nearest 0)] [(2 + k.w, 0), (wd + 4, 0)] w' rfl (by simp [mvS]; omega) (by simp) (All2.more (cPt_point (fit53 (by omega)) (fit53 (by omega))) (All2.more (cPt_point (fit53 (by omega)) (fit53 (by omega))) .nil)) (L0 := [lOwn u2.2.1 ([] ++ mvL (2, 0) k.ls).length u2.2.2, hLb u2.2.2 ([] ++ mvL (2, 0) k.ls), blk b11 [.int .i64 k.w, .int .i64 k.up, .int .i64 k.dn, .slice kp.1 k.ss.length kp.2, .slice kr.1 k.ls.length kr.2] 30, blk b4 [.int .i64 0, .int .i64 0, .int .i64 0, .slice none 0 0, .slice none 0 0] 30]) (by
      have g0 : St w [own 56 1 (some ⟨B2, 0, none⟩) 2 2 [[.complex .f64 (FloatKind.f64.nearest (2 + k.w)) (FloatKind.f64.nearest 0)], [.complex .f64 (FloatKind.f64.nearest (wd + 4)) (FloatKind.f64.nearest 0)]], dBlk b8 (.int .i64 (wd + 4)) (.int .i64 k.up) (.int .i64 0) u2.1.1 u2.2.1 ([] ++ [[((0 : Int), (0 : Int)), (2, 0)]] ++ mvS (2, 0) k.ss).length ([] ++ mvL (2, 0) k.ls).length, sOwn u2.1.1 ([] ++ [[((0 : Int), (0 : Int)), (2, 0)]] ++ mvS (2, 0) k.ss).length u2.1.2, hSt u2.1.2 ([] ++ [[((0 : Int), (0 : Int)), (2, 0)]] ++ mvS (2, 0) k.ss), lOwn u2.2.1 ([] ++ mvL (2, 0) k.ls).length u2.2.2, hLb u2.2.2 ([] ++ mvL (2, 0) k.ls), blk b11 [.int .i64 k.w, .int .i64 k.up, .int .i64 k.dn, .slice kp.1 k.ss.length kp.2, .slice kr.1 k.ls.length kr.2] 30, blk b4 [.int .i64 0, .int .i64 0, .int .i64 0, .slice none 0 0, .slice none 0 0] 30] w' := hw'
      have g1 : St w [own 56 1 (some ⟨B2, 0, none⟩) 2 2 [[.complex .f64 (FloatKind.f64.nearest (2 + k.w)) (FloatKind.f64.nearest 0)], [.complex .f64 (FloatKind.f64.nearest (wd + 4)) (FloatKind.f64.nearest 0)]], dBlk b8 (.int .i64 (wd + 4)) (.int .i64 k.up) (.int .i64 0) u2.1.1 u2.2.1 ([] ++ [[((0 : Int), (0 : Int)), (2, 0)]] ++ mvS (2, 0) k.ss).length ([] ++ mvL (2, 0) k.ls).length, sOwn u2.1.1 ([] ++ [[((0 : Int), (0 : Int)), (2, 0)]] ++ mvS (2, 0) k.ss).length u2.1.2, hSt u2.1.2 ([] ++ [[((0 : Int), (0 : Int)), (2, 0)]] ++ mvS (2, 0) k.ss), lOwn u2.2.1 ([] ++ mvL (2, 0) k.ls).length u2.2.2, hLb u2.2.2 ([] ++ mvL (2, 0) k.ls), blk b11 [.int .i64 k.w, .int .i64 k.up, .int .i64 k.dn, .slice kp.1 k.ss.length kp.2, .slice kr.1 k.ls.length kr.2] 30, blk b4 [.int .i64 0, .int .i64 0, .int .i64 0, .slice none 0 0, .slice none 0 0] 30] w' := St.inc IncQ g0
      exact g1)) (fun u3 => ?_)
      repeat' (first | (refine W1 ?_) | (refine W2 (fun hc => ?_) (fun hc => ?_)) | (intro _))
      refine TX.round (1, ((u3, u2.2) : DX)) (by omega) (show l.length - 1 < l.length - 0 by omega) SubA (fun w' hw => ?_)
      dsimp only
      rw [show choDw wd (l.take 1) = choD0 wd k from hst]
      exact St.inc (L' := [dBlk b8 (.int .i64 (wd + 4)) (.int .i64 k.up) (.int .i64 k.dn) u3.1 u2.2.1 (choD0 wd k).ss.length (choD0 wd k).ls.length, sOwn u3.1 (choD0 wd k).ss.length u3.2, hSt u3.2 (choD0 wd k).ss, lOwn u2.2.1 (choD0 wd k).ls.length u2.2.2, hLb u2.2.2 (choD0 wd k).ls, blk b4 [.int .i64 0, .int .i64 0, .int .i64 0, .slice none 0 0, .slice none 0 0] 30]) IncQ hw
    have hc0 : decide ((i : Int) = 0) = false := decide_eq_false (by omega)
    have hne : l.take i ≠ [] := by
      intro e
      have := congrArg List.length e
      rw [List.length_take, List.length_nil] at this
      omega
    have hst : choDw wd (l.take (i + 1)) = choD1 wd (choDw wd (l.take i)) k := by rw [htk]; exact choDw_snoc wd hne k
    have hD := hp i hi (by omega)
    generalize choDw wd (l.take i) = D at *
    have dw := hD.w; have du := hD.up; have dd := hD.dn; have dw0 := hD.in_.w; have du0 := hD.in_.up; have dd0 := hD.in_.dn; have ds := hD.ss; have dl := hD.ls
    repeat' (first | ((apply T.callV (f := 26); exact rfl; exact rfl; exact fun w' _ => point_any _ _ w' (fit53 (by omega)) (fit53 (by omega)))) | (refine W1 ?_) | (refine W2 (fun hc => ?_) (fun hc => ?_)) | (intro _))
    rename_i b11 B
    refine T.callM (f := 54) (val := fun _ : (Option Addr × Nat) × List (List Value) => .tuple #[]) rfl rfl (fun w' hw' => stroke_lit b8 B _ _ _ x.1.1 x.2.1 _ 3 x.1.2 D.ss [.complex .f64 4607182418800017408 0, .complex .f64 (FloatKind.f64.nearest 1) (FloatKind.f64.nearest (D.dn + 1 + k.up)), .complex .f64 (FloatKind.f64.nearest 2) (FloatKind.f64.nearest (D.dn + 1 + k.up))] [(1, 0), (1, D.dn + 1 + k.up), (2, D.dn + 1 + k.up)] w' rfl (by omega) (by simp) (All2.more c10 (All2.more (cPt_point (fit53 (by omega)) (fit53 (by omega))) (All2.more (cPt_point (fit53 (by omega)) (fit53 (by omega))) .nil))) (L0 := [lOwn x.2.1 D.ls.length x.2.2, hLb x.2.2 D.ls, blk b11 [.int .i64 k.w, .int .i64 k.up, .int .i64 k.dn, .slice kp.1 k.ss.length kp.2, .slice kr.1 k.ls.length kr.2] 30, blk b4 [.int .i64 0, .int .i64 0, .int .i64 0, .slice none 0 0, .slice none 0 0] 30]) (by
      have g0 : St w [own 56 1 (some ⟨B, 0, none⟩) 3 3 [[.complex .f64 4607182418800017408 0], [.complex .f64 (FloatKind.f64.nearest 1) (FloatKind.f64.nearest (D.dn + 1 + k.up))], [.complex .f64 (FloatKind.f64.nearest 2) (FloatKind.f64.nearest (D.dn + 1 + k.up))]], blk b11 [.int .i64 k.w, .int .i64 k.up, .int .i64 k.dn, .slice kp.1 k.ss.length kp.2, .slice kr.1 k.ls.length kr.2] 30, dBlk b8 (.int .i64 D.w) (.int .i64 D.up) (.int .i64 D.dn) x.1.1 x.2.1 D.ss.length D.ls.length, sOwn x.1.1 D.ss.length x.1.2, hSt x.1.2 D.ss, lOwn x.2.1 D.ls.length x.2.2, hLb x.2.2 D.ls, blk b4 [.int .i64 0, .int .i64 0, .int .i64 0, .slice none 0 0, .slice none 0 0] 30] w' := hw'
      have g1 : St w [own 56 1 (some ⟨B, 0, none⟩) 3 3 [[.complex .f64 4607182418800017408 0], [.complex .f64 (FloatKind.f64.nearest 1) (FloatKind.f64.nearest (D.dn + 1 + k.up))], [.complex .f64 (FloatKind.f64.nearest 2) (FloatKind.f64.nearest (D.dn + 1 + k.up))]], dBlk b8 (.int .i64 D.w) (.int .i64 D.up) (.int .i64 D.dn) x.1.1 x.2.1 D.ss.length D.ls.length, sOwn x.1.1 D.ss.length x.1.2, hSt x.1.2 D.ss, lOwn x.2.1 D.ls.length x.2.2, hLb x.2.2 D.ls, blk b11 [.int .i64 k.w, .int .i64 k.up, .int .i64 k.dn, .slice kp.1 k.ss.length kp.2, .slice kr.1 k.ls.length kr.2] 30, blk b4 [.int .i64 0, .int .i64 0, .int .i64 0, .slice none 0 0, .slice none 0 0] 30] w' := St.inc IncQ g0
      exact g1)) (fun v1 => ?_)
    repeat' (first | ((refine TC.lexT [(3, .loud)] (.seg [0, 1, 2, 3] .fin) mixed (by kernel_rfl) (TT.seg rfl ?_))) | ((apply TL.kcallV (d := 68) (f := 26); exact rfl; (intro w' _; exact point_any _ _ w' (fit53 (by omega)) (fit53 (by omega))); exact rfl; exact rfl; exact DropA)) | (refine W1 ?_) | (refine W2 (fun hc => ?_) (fun hc => ?_)) | (intro _))
    refine TL.lcall rfl rfl (Cl.callM (f := 27) (val := fun _ : DX => .tuple #[]) rfl (fun w' hw' => put_any b8 _ _ _ v1.1 x.2.1 v1.2 x.2.2 (D.ss ++ [[((1 : Int), (0 : Int)), (1, D.dn + 1 + k.up), (2, D.dn + 1 + k.up)]]) D.ls k kp kr _ (2, D.dn + 1 + k.up) w' (by simp; omega) (by omega) (fun w'' h => hkr.old h) (cPt_point (fit53 (by omega)) (fit53 (by omega))) (hx.fit (by omega) (by simp) (by simp only; omega)) (St.inc IncQ hw'))) (fun v2 => ?_)
    repeat' (first | ((apply TX.tree)) | ((apply TT.fin)) | ((apply T.callV (f := 26); exact rfl; exact rfl; exact fun w' _ => point_any _ _ w' (fit53 (by omega)) (fit53 (by omega)))) | (refine W1 ?_) | (refine W2 (fun hc => ?_) (fun hc => ?_)) | (intro _))
    rename_i B2
    refine T.callM (f := 54) (val := fun _ : (Option Addr × Nat) × List (List Value) => .tuple #[]) rfl rfl (fun w' hw' => stroke_lit b8 B2 _ _ _ v2.1.1 v2.2.1 _ 3 v2.1.2 (D.ss ++ [[((1 : Int), (0 : Int)), (1, D.dn + 1 + k.up), (2, D.dn + 1 + k.up)]] ++ mvS (2, D.dn + 1 + k.up) k.ss) [.complex .f64 (FloatKind.f64.nearest (2 + k.w)) (FloatKind.f64.nearest (D.dn + 1 + k.up)), .complex .f64 (FloatKind.f64.nearest (wd + 3)) (FloatKind.f64.nearest (D.dn + 1 + k.up)), .complex .f64 (FloatKind.f64.nearest (wd + 3)) (FloatKind.f64.nearest 0)] [(2 + k.w, D.dn + 1 + k.up), (wd + 3, D.dn + 1 + k.up), (wd + 3, 0)] w' rfl (by simp [mvS]; omega) (by simp) (All2.more (cPt_point (fit53 (by omega)) (fit53 (by omega))) (All2.more (cPt_point (fit53 (by omega)) (fit53 (by omega))) (All2.more (cPt_point (fit53 (by omega)) (fit53 (by omega))) .nil))) (L0 := [lOwn v2.2.1 (D.ls ++ mvL (2, D.dn + 1 + k.up) k.ls).length v2.2.2, hLb v2.2.2 (D.ls ++ mvL (2, D.dn + 1 + k.up) k.ls), blk b11 [.int .i64 k.w, .int .i64 k.up, .int .i64 k.dn, .slice kp.1 k.ss.length kp.2, .slice kr.1 k.ls.length kr.2] 30, blk b4 [.int .i64 0, .int .i64 0, .int .i64 0, .slice none 0 0, .slice none 0 0] 30]) (by
      have g0 : St w [own 56 1 (some ⟨B2, 0, none⟩) 3 3 [[.complex .f64 (FloatKind.f64.nearest (2 + k.w)) (FloatKind.f64.nearest (D.dn + 1 + k.up))], [.complex .f64 (FloatKind.f64.nearest (wd + 3)) (FloatKind.f64.nearest (D.dn + 1 + k.up))], [.complex .f64 (FloatKind.f64.nearest (wd + 3)) (FloatKind.f64.nearest 0)]], dBlk b8 (.int .i64 D.w) (.int .i64 D.up) (.int .i64 D.dn) v2.1.1 v2.2.1 (D.ss ++ [[((1 : Int), (0 : Int)), (1, D.dn + 1 + k.up), (2, D.dn + 1 + k.up)]] ++ mvS (2, D.dn + 1 + k.up) k.ss).length (D.ls ++ mvL (2, D.dn + 1 + k.up) k.ls).length, sOwn v2.1.1 (D.ss ++ [[((1 : Int), (0 : Int)), (1, D.dn + 1 + k.up), (2, D.dn + 1 + k.up)]] ++ mvS (2, D.dn + 1 + k.up) k.ss).length v2.1.2, hSt v2.1.2 (D.ss ++ [[((1 : Int), (0 : Int)), (1, D.dn + 1 + k.up), (2, D.dn + 1 + k.up)]] ++ mvS (2, D.dn + 1 + k.up) k.ss), lOwn v2.2.1 (D.ls ++ mvL (2, D.dn + 1 + k.up) k.ls).length v2.2.2, hLb v2.2.2 (D.ls ++ mvL (2, D.dn + 1 + k.up) k.ls), blk b11 [.int .i64 k.w, .int .i64 k.up, .int .i64 k.dn, .slice kp.1 k.ss.length kp.2, .slice kr.1 k.ls.length kr.2] 30, blk b4 [.int .i64 0, .int .i64 0, .int .i64 0, .slice none 0 0, .slice none 0 0] 30] w' := hw'
      have g1 : St w [own 56 1 (some ⟨B2, 0, none⟩) 3 3 [[.complex .f64 (FloatKind.f64.nearest (2 + k.w)) (FloatKind.f64.nearest (D.dn + 1 + k.up))], [.complex .f64 (FloatKind.f64.nearest (wd + 3)) (FloatKind.f64.nearest (D.dn + 1 + k.up))], [.complex .f64 (FloatKind.f64.nearest (wd + 3)) (FloatKind.f64.nearest 0)]], dBlk b8 (.int .i64 D.w) (.int .i64 D.up) (.int .i64 D.dn) v2.1.1 v2.2.1 (D.ss ++ [[((1 : Int), (0 : Int)), (1, D.dn + 1 + k.up), (2, D.dn + 1 + k.up)]] ++ mvS (2, D.dn + 1 + k.up) k.ss).length (D.ls ++ mvL (2, D.dn + 1 + k.up) k.ls).length, sOwn v2.1.1 (D.ss ++ [[((1 : Int), (0 : Int)), (1, D.dn + 1 + k.up), (2, D.dn + 1 + k.up)]] ++ mvS (2, D.dn + 1 + k.up) k.ss).length v2.1.2, hSt v2.1.2 (D.ss ++ [[((1 : Int), (0 : Int)), (1, D.dn + 1 + k.up), (2, D.dn + 1 + k.up)]] ++ mvS (2, D.dn + 1 + k.up) k.ss), lOwn v2.2.1 (D.ls ++ mvL (2, D.dn + 1 + k.up) k.ls).length v2.2.2, hLb v2.2.2 (D.ls ++ mvL (2, D.dn + 1 + k.up) k.ls), blk b11 [.int .i64 k.w, .int .i64 k.up, .int .i64 k.dn, .slice kp.1 k.ss.length kp.2, .slice kr.1 k.ls.length kr.2] 30, blk b4 [.int .i64 0, .int .i64 0, .int .i64 0, .slice none 0 0, .slice none 0 0] 30] w' := St.inc IncQ g0
      exact g1)) (fun v3 => ?_)
    repeat' (first | (refine W1 ?_) | (refine W2 (fun hc => ?_) (fun hc => ?_)) | (intro _))
    refine TX.round (i + 1, ((v3, v2.2) : DX)) hlt (show l.length - (i + 1) < l.length - i by omega) SubA (fun w' hw => ?_)
    dsimp only
    rw [hst]
    exact St.inc (L' := [dBlk b8 (.int .i64 D.w) (.int .i64 D.up) (.int .i64 (D.dn + 1 + k.up + k.dn)) v3.1 v2.2.1 (choD1 wd D k).ss.length (choD1 wd D k).ls.length, sOwn v3.1 (choD1 wd D k).ss.length v3.2, hSt v3.2 (choD1 wd D k).ss, lOwn v2.2.1 (choD1 wd D k).ls.length v2.2.2, hLb v2.2.2 (choD1 wd D k).ls, blk b4 [.int .i64 0, .int .i64 0, .int .i64 0, .slice none 0 0, .slice none 0 0] 30]) IncQ hw
  have hck2 : decide ((i : Int) < (l.length : Int)) = false := by simp; omega
  obtain rfl : i = l.length := by omega
  rw [List.take_of_length_le (Nat.le_refl _)]
  generalize choDw wd l = D
  repeat' (first | (refine W1 ?_) | (refine W2 (fun hc => ?_) (fun hc => ?_)) | (intro _))
  refine TX.ret_gen (rs := [.cell 4 30]) (vs := [dVal x.1.1 x.2.1 D]) rfl (.cell rfl (blk_res (cs := [.int .i64 D.w, .int .i64 D.up, .int .i64 D.dn, .slice x.1.1.1 D.ss.length x.1.1.2, .slice x.2.1.1 D.ls.length x.2.1.2]) AtA rfl) .nil) (fun w' hw => ?_)
  exact dret (d := D) (p := x.1.1) (q := x.2.1) (rows := x.1.2) (lrows := x.2.2) (St.inc IncQ hw)
end Go.Proofs.YtalnmednhhimhaaDoor
/- Small numbers' texts, and the sign of a Rep's count. -/
namespace Go.Bonsai
open Go
/-- the text of a number below a hundred -/
def smallB (n : Nat) : ByteArray := if n < 10 then ⟨#[(48 + n).toUInt8]⟩ else ⟨#[(48 + n / 10).toUInt8, (48 + n % 10).toUInt8]⟩
theorem smallB_size (n : Nat) : (smallB n).size ≤ 2 ∧ 1 ≤ (smallB n).size := by unfold smallB; split <;> exact ⟨by simp [ByteArray.size], by simp [ByteArray.size]⟩
def countB (a b : Int) : ByteArray :=
  if a = 0 ∧ b = 1 then ⟨#[63]⟩ else if a = 0 ∧ b = -1 then ⟨#[42]⟩ else if a = 1 ∧ b = -1 then ⟨#[43]⟩
  else if a = b then (⟨#[123]⟩ : ByteArray) ++ smallB a.toNat ++ ⟨#[125]⟩
  else if b = -1 then (⟨#[123]⟩ : ByteArray) ++ smallB a.toNat ++ ⟨#[44, 125]⟩
  else (⟨#[123]⟩ : ByteArray) ++ smallB a.toNat ++ ⟨#[44]⟩ ++ smallB b.toNat ++ ⟨#[125]⟩
end Go.Bonsai
namespace Go.Sl
open Go
section
variable {P : Program} {n : FD} {s : Sg} {M : World → Prop} {ty : TypeId}
theorem Ev.str_add {t u : TypeId} {x y : Operand} {a b : ByteArray} (hx : ev s x = some (.string a)) (hy : ev s y = some (.string b)) (hl : a.size + b.size ≤ 9223372036854775807) : Ev P n s M (.binOp .add t x y u) ty (.string (a ++ b)) := by
  refine ⟨fun ac w o ho ht hf hm => ?_⟩
  have h : ¬ (IntKind.i64.max < ((a.size + b.size : Nat) : Int)) := by
    have : IntKind.i64.max = 9223372036854775807 := by decide
    omega
  have h' : ¬ (IntKind.i64.max < (a.size : Int) + (b.size : Int)) := by simpa using h
  have hl' : (a.size : Int) + (b.size : Int) ≤ 9223372036854775807 := by omega
  simp [execOp, ho, hf.ev hx, hf.ev hy, eqGuard, binOp, Op.stringOp, h, h', hl']
theorem Ev.dbl {x y : Operand} {t u : TypeId} {a : Nat} (hx : ev s x = some (.int .i64 (a : Int))) (hy : ev s y = some (.int .i64 2)) (h : a ≤ 1000000) : Ev P n s M (.binOp .mul t x y u) ty (.int .i64 ((a * 2 : Nat) : Int)) := by
  rw [Int.natCast_mul]
  exact Ev.mul hx hy (by unfold I64; omega)
theorem Ev.add2 {x y : Operand} {t u : TypeId} {a : Nat} (hx : ev s x = some (.int .i64 (a : Int))) (hy : ev s y = some (.int .i64 2)) (h : a ≤ 1000000) : Ev P n s M (.binOp .add t x y u) ty (.int .i64 ((a + 2 : Nat) : Int)) := by
  rw [Int.natCast_add]
  exact Ev.add hx hy (by unfold I64; omega)
theorem Ev.str_mid {x y z : Operand} {t : TypeId} {a : ByteArray} {k k' : IntKind} {l h : Nat} [ht : UD P t .string] (hx : ev s x = some (.string a)) (hy : ev s y = some (.int k (l : Int))) (hz : ev s z = some (.int k' (h : Int))) (hlh : l ≤ h) (hha : h ≤ a.size) : Ev P n s M (.slice t x (some y) (some z) none) ty (.string (a.extract l h)) :=
  Ev.str_slice hx (.inr ⟨y, k, rfl, hy⟩) (.inr ⟨z, k', rfl, hz⟩) hlh hha
end
end Go.Sl
namespace Go.Proofs.YtalnmednhhimhaaDoor
open Go Go.Sl Go.RowKit Go.Bonsai Go.Fl
set_option linter.unusedVariables false
set_option linter.unusedSimpArgs false
set_option maxHeartbeats 2000000 in
theorem small_any (n : Nat) (w : World) (hn : n < 100) : Calls Tryd.prog 85 #[.int .i64 (n : Int)] w (RetV w (.string (smallB n))) := by
  refine TC.calls (l := [.int .i64 (n : Int)]) Tryd.func85 rfl Tryd.ntmps85 rfl (St.start w) ?_
  by_cases h : n < 10
  · have hc : decide ((n : Int) < 10) = true := decide_eq_true (by omega)
    have h36 : n + 1 ≤ 36 := by omega
    repeat' (first | ((apply T.ev_; exact rfl; apply Ev.str_mid; exact rfl; exact rfl; exact rfl; omega; exact h36)) | (refine W1 ?_) | (refine W2 (fun hc => ?_) (fun hc => ?_)) | (intro _))
    refine TX.ret_tmp rfl rfl (fun w' hw => RetV.eq hw (congrArg Value.string ?_))
    clear hc h36 hw
    revert n
    decide +kernel
  · have hc : decide ((n : Int) < 10) = false := decide_eq_false (by omega)
    have h200 : n * 2 + 2 ≤ 200 := by omega
    repeat' (first | ((apply T.ev_; exact rfl; apply Ev.dbl; exact rfl; exact rfl; omega)) | ((apply T.ev_; exact rfl; apply Ev.add2; exact rfl; exact rfl; omega)) | ((apply T.ev_; exact rfl; apply Ev.str_mid; exact rfl; exact rfl; exact rfl; omega; exact h200)) | (refine W1 ?_) | (refine W2 (fun hc => ?_) (fun hc => ?_)) | (intro _))
    refine TX.ret_tmp rfl rfl (fun w' hw => RetV.eq hw (congrArg Value.string ?_))
    clear hc h200 hw
    revert n
    decide +kernel
theorem show_any (n : Nat) (w : World) (hn : n < 100) : Calls Tryd.prog 29 #[.int .i64 (n : Int)] w (RetV w (.string (smallB n))) := by
  have h0 : decide ((0 : Int) ≤ (n : Int)) = true := decide_eq_true (by omega)
  have h1 : decide ((n : Int) < 100) = true := decide_eq_true (by omega)
  have f1 : ∀ w, Calls Tryd.prog 76 #[.int .i64 (n : Int), .int .i64 10] w (RetV w (.string (smallB n))) := fun w => by
    refine TC.calls (l := [.int .i64 (n : Int), .int .i64 10]) Tryd.func76 rfl Tryd.ntmps76 rfl (St.start w) ?_
    have h2 : decide ((10 : Int) = 10) = true := rfl
    repeat' (first | ((apply T.callV (f := 85); exact rfl; exact rfl; exact fun w' _ => small_any n w' hn)) | (refine W1 ?_) | (refine W2 (fun hc => ?_) (fun hc => ?_)) | (intro _))
    exact TX.ret_tmp rfl rfl (fun w' hw => RetV.eq hw rfl)
  have f2 : ∀ w, Calls Tryd.prog 67 #[.int .i64 (n : Int)] w (RetV w (.string (smallB n))) := fun w => by
    refine TC.calls (l := [.int .i64 (n : Int)]) Tryd.func67 rfl Tryd.ntmps67 rfl (St.start w) ?_
    repeat' (first | ((apply T.callV (f := 76); exact rfl; exact rfl; exact fun w' _ => f1 w')) | (refine W1 ?_) | (refine W2 (fun hc => ?_) (fun hc => ?_)) | (intro _))
    exact TX.ret_tmp rfl rfl (fun w' hw => RetV.eq hw rfl)
  have f3 : ∀ w, Calls Tryd.prog 52 #[.int .i64 (n : Int)] w (RetV w (.string (smallB n))) := fun w => by
    refine TC.calls (l := [.int .i64 (n : Int)]) Tryd.func52 rfl Tryd.ntmps52 rfl (St.start w) ?_
    repeat' (first | ((apply T.callV (f := 67); exact rfl; exact rfl; exact fun w' _ => f2 w')) | (refine W1 ?_) | (refine W2 (fun hc => ?_) (fun hc => ?_)) | (intro _))
    exact TX.ret_tmp rfl rfl (fun w' hw => RetV.eq hw rfl)
  refine TC.calls (l := [.int .i64 (n : Int)]) Tryd.func29 rfl Tryd.ntmps29 rfl (St.start w) ?_
  repeat' (first | ((apply T.callV (f := 52); exact rfl; exact rfl; exact fun w' _ => f3 w')) | (refine W1 ?_) | (refine W2 (fun hc => ?_) (fun hc => ?_)) | (intro _))
  exact TX.ret_tmp rfl rfl (fun w' hw => RetV.eq hw rfl)
set_option maxHeartbeats 2000000 in
set_option maxRecDepth 20000 in
theorem count_any (a b : Int) (w : World) (ha : 0 ≤ a ∧ a < 100) (hb : -1 ≤ b ∧ b < 100) : Calls Tryd.prog 61 #[.int .i64 a, .int .i64 b] w (RetV w (.string (countB a b))) := by
  have sa := smallB_size a.toNat
  have sb := smallB_size b.toNat
  have e1 : (⟨#[123]⟩ : ByteArray).size = 1 := rfl
  have e2 : (⟨#[125]⟩ : ByteArray).size = 1 := rfl
  have e3 : (⟨#[44, 125]⟩ : ByteArray).size = 2 := rfl
  have e4 : (⟨#[44]⟩ : ByteArray).size = 1 := rfl
  have shA : ∀ w', Calls Tryd.prog 29 #[.int .i64 a] w' (RetV w' (.string (smallB a.toNat))) := fun w' => by
    have := show_any a.toNat w' (by omega)
    rwa [show ((a.toNat : Nat) : Int) = a by omega] at this
  have shB : ¬ b = -1 → ∀ w', Calls Tryd.prog 29 #[.int .i64 b] w' (RetV w' (.string (smallB b.toNat))) := fun hne w' => by
    have := show_any b.toNat w' (by omega)
    rwa [show ((b.toNat : Nat) : Int) = b by omega] at this
  refine TC.calls (l := [.int .i64 a, .int .i64 b]) Tryd.func61 rfl Tryd.ntmps61 rfl (St.start w) ?_
  generalize hA : smallB a.toNat = A at *
  generalize hB : smallB b.toNat = B at *
  repeat' (first | ((apply T.callV (f := 29) (vs := [.int .i64 a]); exact rfl; exact rfl; exact fun w' _ => shA w')) | ((apply T.callV (f := 29) (vs := [.int .i64 b]); exact rfl; exact rfl; exact fun w' _ => shB (by simpa using (by assumption : decide (b = -1) = false)) w')) | ((apply T.ev_; exact rfl; apply Ev.str_add; exact rfl; exact rfl; (first | omega | (simp only [ByteArray.size_append]; omega)))) | (refine W1 ?_) | (refine W2 (fun hc => ?_) (fun hc => ?_)) | (intro _))
  all_goals
    refine TX.ret_tmp rfl rfl (fun w' hw => RetV.eq hw (congrArg Value.string ?_))
    clear hw shA shB sa sb e1 e2 e3 e4
    simp only [decide_eq_true_eq, decide_eq_false_iff_not] at *
    subst hA hB
    unfold countB
    first
    | (exfalso; omega)
    | (rw [if_pos (by omega)])
    | (rw [if_neg (by omega), if_pos (by omega)])
    | (rw [if_neg (by omega), if_neg (by omega), if_pos (by omega)])
    | (rw [if_neg (by omega), if_neg (by omega), if_neg (by omega), if_pos (by omega)])
    | (rw [if_neg (by omega), if_neg (by omega), if_neg (by omega), if_neg (by omega), if_pos (by omega)])
    | (rw [if_neg (by omega), if_neg (by omega), if_neg (by omega), if_neg (by omega), if_neg (by omega)])
end Go.Proofs.YtalnmednhhimhaaDoor
/- Drawings, walked: a Rep. -/
namespace Go.Proofs.YtalnmednhhimhaaDoor
open Go Go.Sl Go.RowKit Go.Bonsai Go.Fl
set_option linter.unusedVariables false
set_option linter.unusedSimpArgs false
theorem countB_size (a b : Int) : (countB a b).size ≤ 10 := by
  have sa := smallB_size a.toNat
  have sb := smallB_size b.toNat
  have e1 : (⟨#[123]⟩ : ByteArray).size = 1 := rfl
  have e2 : (⟨#[125]⟩ : ByteArray).size = 1 := rfl
  have e3 : (⟨#[44, 125]⟩ : ByteArray).size = 2 := rfl
  have e4 : (⟨#[44]⟩ : ByteArray).size = 1 := rfl
  have e5 : (⟨#[63]⟩ : ByteArray).size = 1 := rfl
  have e6 : (⟨#[42]⟩ : ByteArray).size = 1 := rfl
  have e7 : (⟨#[43]⟩ : ByteArray).size = 1 := rfl
  unfold countB
  split
  · omega
  split
  · omega
  split
  · omega
  split
  · simp only [ByteArray.size_append]; omega
  split
  · simp only [ByteArray.size_append]; omega
  · simp only [ByteArray.size_append]; omega
set_option maxHeartbeats 4000000 in
theorem rep_any (n : Nod) (kv : Value) (l : List Drw) (k : Drw) (A : Option Addr) (c K : Nat) (w : World) (hr : RSl 5 RDr (Old w) w (.slice A l.length c) l) (h0 : l[0]? = some k) (hk : k.Ok K) (hK : K ≤ 100000000) (hmn : 0 ≤ n.min ∧ n.min < 100) (hmx : -1 ≤ n.max ∧ n.max < 100) :
    Calls Tryd.prog 41 #[.agg (n.cells kv).toArray, .slice A l.length c] w (RetD w (repD n (countB n.min n.max) k)) := by
  obtain ⟨A', c', krows, e, hA, hrows, _⟩ := hr
  injection e with e1 _ e3
  subst e1; subst e3
  obtain ⟨cs, hcs, hcr⟩ := hrows.get h0
  obtain ⟨kp, kr, rfl, hk1, hk2⟩ := hcr.open_
  have hkr : RdD w kp kr k := ⟨hk1, hk2⟩
  have hl0 : 0 < l.length := (List.getElem?_eq_some_iff.1 h0).1
  have hA' : A = some (A.getD default) := hA.some_ (by omega)
  have hsz := countB_size n.min n.max
  refine TC.calls (l := [.agg (n.cells kv).toArray, .slice A l.length c]) Tryd.func41 rfl Tryd.ntmps41 rfl (St.start w) ?_
  have kw := hk.w; have ku := hk.up; have kd := hk.dn; have kw0 := hk.in_.w; have ku0 := hk.in_.up; have kd0 := hk.in_.dn; have ks := hk.ss; have kl := hk.ls
  have hcc := fun w' => count_any n.min n.max w' hmn hmx
  generalize hs : countB n.min n.max = s at *
  have hwb : 0 ≤ wideD s k ∧ wideD s k ≤ 1000000000 := by unfold wideD; omega
  have i1 : I64 (-(k.up + 1)) := by unfold I64; omega
  have hct := fun w' (hw' : RdD w' kp kr k) => through_any (-(k.up + 1) - 1) s _ k kp kr K w' (cPt_point (x := 2) (y := -(k.up + 1) - 1) (by decide) (fit53 (by omega))) (by omega) hw' hk (by omega)
  have hT : repD n s k = { throughD (-(k.up + 1) - 1) s k with dn := if n.min = 0 then k.dn + 1 else k.dn, ss := (throughD (-(k.up + 1) - 1) s k).ss ++ repS1 n (wideD s k) k ++ repS2 n (wideD s k) k } := rfl
  have hTw : (throughD (-(k.up + 1) - 1) s k).w = wideD s k + 4 := rfl
  have hTu : (throughD (-(k.up + 1) - 1) s k).up = k.up + 2 := rfl
  have hTd : (throughD (-(k.up + 1) - 1) s k).dn = k.dn := rfl
  have hTs : (throughD (-(k.up + 1) - 1) s k).ss.length ≤ 600000000 := by simp [throughD, mvS]; omega
  generalize throughD (-(k.up + 1) - 1) s k = TD at *
  have hS1 : (repS1 n (wideD s k) k).length ≤ 1 := by unfold repS1; split <;> simp
  repeat' (first | ((refine TC.holdR 3 ?_)) | ((refine TC.lexT [] (.seg [0, 1, 2, 3, 4, 5, 6, 7, 8] .fin) mixed (by kernel_rfl) (TT.seg rfl ?_))) | ((apply TX.tree)) | ((apply TT.fin)) | ((apply TL.pure_; exact rfl; exact rfl; apply Ev.neg; exact rfl; assumption)) | (refine W1 ?_) | (refine W2 (fun hc => ?_) (fun hc => ?_)) | (intro _))
  rename_i b2 b4 b5
  refine ⟨?_⟩
  refine TC.cutA (ι := Nat × DX) (fun x r => (8, .pointer (some ⟨x.1, 0, none⟩)) :: (9, .int .i64 (wideD s k)) :: r)
    (fun x => St w [dBlk x.1 (.int .i64 TD.w) (.int .i64 TD.up) (.int .i64 TD.dn) x.2.1.1 x.2.2.1 TD.ss.length TD.ls.length, sOwn x.2.1.1 TD.ss.length x.2.1.2, hSt x.2.1.2 TD.ss, lOwn x.2.2.1 TD.ls.length x.2.2.2, hLb x.2.2.2 TD.ls, blk b5 [.int .i64 k.w, .int .i64 k.up, .int .i64 k.dn, .slice kp.1 k.ss.length kp.2, .slice kr.1 k.ls.length kr.2] 30, blk b2 (n.cells kv) 55, blk b4 [.int .i64 0, .int .i64 0, .int .i64 0, .slice none 0 0, .slice none 0 0] 30])
    KpA (TC.lexT [] (.seg [0, 1, 3, 4, 5, 6, 9] (.both (.seg [2] (.both (.seg [7, 8] (.both (.seg [10, 11, 12, 13, 14, 15, 16] .fin) (.seg [14, 10, 11, 12, 13, 15, 16] .fin))) (.seg [14, 7, 8, 10, 11, 12, 13, 15, 16] .fin))) (.seg [14, 2, 7, 8, 10, 11, 12, 13, 15, 16] .fin))) mixed (by kernel_rfl) (TT.seg rfl ?_)) (fun x => ?_)
  · repeat' (first | ((apply TL.keep (d := 8); exact rfl; exact rfl; exact (fun _ h => by first | exact h | exact h.drop 1 | exact h.drop 4 | exact h.drop 5); exact Ac.alloc rfl; exact (fun _ _ h => by first | exact h.drop 1 | exact h.drop 5))) | ((apply TX.tree)) | ((apply TT.both)) | ((apply TT.seg; exact rfl)) | ((apply TT.fin)) | ((apply TL.kcallV (d := 23) (f := 26); exact rfl; (intro w' _; exact point_any 2 _ w' (by decide) (fit53 (by omega))); exact rfl; exact rfl; exact DropA)) | ((apply TL.kcallV (d := 28) (f := 61); exact rfl; (intro w' _; exact hcc w'); exact rfl; exact rfl; exact DropA)) | ((apply TL.kcallR (d := 31) (f := 60); exact rfl; (intro w' hw'; exact hct w' (hkr.old hw')); exact rfl; exact rfl; exact DropA)) | (refine W1 ?_) | (refine W2 (fun hc => ?_) (fun hc => ?_)) | (intro _))
    all_goals (apply TX.join (_, by assumption); exact SubA; exact fun w' hw => St.inc IncQ hw)
  obtain ⟨b8, x⟩ := x
  dsimp only
  rw [hTw, hTu, hTd]
  repeat' (first | ((refine TC.hold 4 ?_)) | (refine W1 ?_) | (refine W2 (fun hc => ?_) (fun hc => ?_)) | (intro _))
  refine ⟨TC.cutA (ι := (Option Addr × Nat) × List (List Value)) (fun _ r => r) (fun y => St w [dBlk b8 (.int .i64 (wideD s k + 4)) (.int .i64 (k.up + 2)) (.int .i64 k.dn) y.1 x.2.1 (TD.ss ++ repS1 n (wideD s k) k).length TD.ls.length, sOwn y.1 (TD.ss ++ repS1 n (wideD s k) k).length y.2, hSt y.2 (TD.ss ++ repS1 n (wideD s k) k), lOwn x.2.1 TD.ls.length x.2.2, hLb x.2.2 TD.ls, blk b5 [.int .i64 k.w, .int .i64 k.up, .int .i64 k.dn, .slice kp.1 k.ss.length kp.2, .slice kr.1 k.ls.length kr.2] 30, blk b2 (n.cells kv) 55, blk b4 [.int .i64 0, .int .i64 0, .int .i64 0, .slice none 0 0, .slice none 0 0] 30]) KpA ?_ (fun y => ?_)⟩
  · by_cases hc : n.max = -1 ∨ 1 < n.max
    · have e : repS1 n (wideD s k) k = [[(wideD s k + 3, 0), (wideD s k + 3, -(k.up + 1)), (1, -(k.up + 1)), (1, 0)]] := by unfold repS1; rw [if_pos hc]
      rw [e]
      by_cases hm1 : n.max = -1
      · have c1 : decide (n.max = -1) = true := decide_eq_true hm1
        repeat' (first | ((apply T.callV (f := 26); exact rfl; exact rfl; exact fun w' _ => point_any _ _ w' (fit53 (by omega)) (fit53 (by omega)))) | (refine W1 ?_) | (refine W2 (fun hc => ?_) (fun hc => ?_)) | (intro _))
        rename_i B
        refine T.callM (f := 54) (val := fun _ : (Option Addr × Nat) × List (List Value) => .tuple #[]) rfl rfl (fun w' hw' => stroke_lit b8 B _ _ _ x.1.1 x.2.1 _ 4 x.1.2 TD.ss [.complex .f64 (FloatKind.f64.nearest (wideD s k + 3)) (FloatKind.f64.nearest 0), .complex .f64 (FloatKind.f64.nearest (wideD s k + 3)) (FloatKind.f64.nearest (-(k.up + 1))), .complex .f64 (FloatKind.f64.nearest 1) (FloatKind.f64.nearest (-(k.up + 1))), .complex .f64 4607182418800017408 0] [(wideD s k + 3, 0), (wideD s k + 3, -(k.up + 1)), (1, -(k.up + 1)), (1, 0)] w' rfl (by omega) (by simp) (All2.more (cPt_point (fit53 (by omega)) (fit53 (by omega))) (All2.more (cPt_point (fit53 (by omega)) (fit53 (by omega))) (All2.more (cPt_point (fit53 (by omega)) (fit53 (by omega))) (All2.more c10 .nil)))) (L0 := [lOwn x.2.1 TD.ls.length x.2.2, hLb x.2.2 TD.ls, blk b5 [.int .i64 k.w, .int .i64 k.up, .int .i64 k.dn, .slice kp.1 k.ss.length kp.2, .slice kr.1 k.ls.length kr.2] 30, blk b2 (n.cells kv) 55, blk b4 [.int .i64 0, .int .i64 0, .int .i64 0, .slice none 0 0, .slice none 0 0] 30]) (by
      have g0 : St w [own 56 1 (some ⟨B, 0, none⟩) 4 4 [[.complex .f64 (FloatKind.f64.nearest (wideD s k + 3)) (FloatKind.f64.nearest 0)], [.complex .f64 (FloatKind.f64.nearest (wideD s k + 3)) (FloatKind.f64.nearest (-(k.up + 1)))], [.complex .f64 (FloatKind.f64.nearest 1) (FloatKind.f64.nearest (-(k.up + 1)))], [.complex .f64 4607182418800017408 0]], dBlk b8 (.int .i64 (wideD s k + 4)) (.int .i64 (k.up + 2)) (.int .i64 k.dn) x.1.1 x.2.1 TD.ss.length TD.ls.length, sOwn x.1.1 TD.ss.length x.1.2, hSt x.1.2 TD.ss, lOwn x.2.1 TD.ls.length x.2.2, hLb x.2.2 TD.ls, blk b5 [.int .i64 k.w, .int .i64 k.up, .int .i64 k.dn, .slice kp.1 k.ss.length kp.2, .slice kr.1 k.ls.length kr.2] 30, blk b2 (n.cells kv) 55, blk b4 [.int .i64 0, .int .i64 0, .int .i64 0, .slice none 0 0, .slice none 0 0] 30] w' := hw'
      have g1 : St w [own 56 1 (some ⟨B, 0, none⟩) 4 4 [[.complex .f64 (FloatKind.f64.nearest (wideD s k + 3)) (FloatKind.f64.nearest 0)], [.complex .f64 (FloatKind.f64.nearest (wideD s k + 3)) (FloatKind.f64.nearest (-(k.up + 1)))], [.complex .f64 (FloatKind.f64.nearest 1) (FloatKind.f64.nearest (-(k.up + 1)))], [.complex .f64 4607182418800017408 0]], dBlk b8 (.int .i64 (wideD s k + 4)) (.int .i64 (k.up + 2)) (.int .i64 k.dn) x.1.1 x.2.1 TD.ss.length TD.ls.length, sOwn x.1.1 TD.ss.length x.1.2, hSt x.1.2 TD.ss, lOwn x.2.1 TD.ls.length x.2.2, hLb x.2.2 TD.ls, blk b5 [.int .i64 k.w, .int .i64 k.up, .int .i64 k.dn, .slice kp.1 k.ss.length kp.2, .slice kr.1 k.ls.length kr.2] 30, blk b2 (n.cells kv) 55, blk b4 [.int .i64 0, .int .i64 0, .int .i64 0, .slice none 0 0, .slice none 0 0] 30] w' := St.inc IncQ g0
      exact g1)) (fun u => ?_)
        repeat' (first | (refine W1 ?_) | (refine W2 (fun hc => ?_) (fun hc => ?_)) | (intro _))
        exact TX.join u SubA (fun w' hw => St.inc IncQ hw)
      · have c1 : decide (n.max = -1) = false := decide_eq_false hm1
        have c2 : decide (1 < n.max) = true := decide_eq_true (by omega)
        repeat' (first | ((apply T.callV (f := 26); exact rfl; exact rfl; exact fun w' _ => point_any _ _ w' (fit53 (by omega)) (fit53 (by omega)))) | (refine W1 ?_) | (refine W2 (fun hc => ?_) (fun hc => ?_)) | (intro _))
        rename_i B
        refine T.callM (f := 54) (val := fun _ : (Option Addr × Nat) × List (List Value) => .tuple #[]) rfl rfl (fun w' hw' => stroke_lit b8 B _ _ _ x.1.1 x.2.1 _ 4 x.1.2 TD.ss [.complex .f64 (FloatKind.f64.nearest (wideD s k + 3)) (FloatKind.f64.nearest 0), .complex .f64 (FloatKind.f64.nearest (wideD s k + 3)) (FloatKind.f64.nearest (-(k.up + 1))), .complex .f64 (FloatKind.f64.nearest 1) (FloatKind.f64.nearest (-(k.up + 1))), .complex .f64 4607182418800017408 0] [(wideD s k + 3, 0), (wideD s k + 3, -(k.up + 1)), (1, -(k.up + 1)), (1, 0)] w' rfl (by omega) (by simp) (All2.more (cPt_point (fit53 (by omega)) (fit53 (by omega))) (All2.more (cPt_point (fit53 (by omega)) (fit53 (by omega))) (All2.more (cPt_point (fit53 (by omega)) (fit53 (by omega))) (All2.more c10 .nil)))) (L0 := [lOwn x.2.1 TD.ls.length x.2.2, hLb x.2.2 TD.ls, blk b5 [.int .i64 k.w, .int .i64 k.up, .int .i64 k.dn, .slice kp.1 k.ss.length kp.2, .slice kr.1 k.ls.length kr.2] 30, blk b2 (n.cells kv) 55, blk b4 [.int .i64 0, .int .i64 0, .int .i64 0, .slice none 0 0, .slice none 0 0] 30]) (by
      have g0 : St w [own 56 1 (some ⟨B, 0, none⟩) 4 4 [[.complex .f64 (FloatKind.f64.nearest (wideD s k + 3)) (FloatKind.f64.nearest 0)], [.complex .f64 (FloatKind.f64.nearest (wideD s k + 3)) (FloatKind.f64.nearest (-(k.up + 1)))], [.complex .f64 (FloatKind.f64.nearest 1) (FloatKind.f64.nearest (-(k.up + 1)))], [.complex .f64 4607182418800017408 0]], dBlk b8 (.int .i64 (wideD s k + 4)) (.int .i64 (k.up + 2)) (.int .i64 k.dn) x.1.1 x.2.1 TD.ss.length TD.ls.length, sOwn x.1.1 TD.ss.length x.1.2, hSt x.1.2 TD.ss, lOwn x.2.1 TD.ls.length x.2.2, hLb x.2.2 TD.ls, blk b5 [.int .i64 k.w, .int .i64 k.up, .int .i64 k.dn, .slice kp.1 k.ss.length kp.2, .slice kr.1 k.ls.length kr.2] 30, blk b2 (n.cells kv) 55, blk b4 [.int .i64 0, .int .i64 0, .int .i64 0, .slice none 0 0, .slice none 0 0] 30] w' := hw'
      have g1 : St w [own 56 1 (some ⟨B, 0, none⟩) 4 4 [[.complex .f64 (FloatKind.f64.nearest (wideD s k + 3)) (FloatKind.f64.nearest 0)], [.complex .f64 (FloatKind.f64.nearest (wideD s k + 3)) (FloatKind.f64.nearest (-(k.up + 1)))], [.complex .f64 (FloatKind.f64.nearest 1) (FloatKind.f64.nearest (-(k.up + 1)))], [.complex .f64 4607182418800017408 0]], dBlk b8 (.int .i64 (wideD s k + 4)) (.int .i64 (k.up + 2)) (.int .i64 k.dn) x.1.1 x.2.1 TD.ss.length TD.ls.length, sOwn x.1.1 TD.ss.length x.1.2, hSt x.1.2 TD.ss, lOwn x.2.1 TD.ls.length x.2.2, hLb x.2.2 TD.ls, blk b5 [.int .i64 k.w, .int .i64 k.up, .int .i64 k.dn, .slice kp.1 k.ss.length kp.2, .slice kr.1 k.ls.length kr.2] 30, blk b2 (n.cells kv) 55, blk b4 [.int .i64 0, .int .i64 0, .int .i64 0, .slice none 0 0, .slice none 0 0] 30] w' := St.inc IncQ g0
      exact g1)) (fun u => ?_)
        repeat' (first | (refine W1 ?_) | (refine W2 (fun hc => ?_) (fun hc => ?_)) | (intro _))
        exact TX.join u SubA (fun w' hw => St.inc IncQ hw)
    · have e : repS1 n (wideD s k) k = [] := by unfold repS1; rw [if_neg hc]
      have c1 : decide (n.max = -1) = false := decide_eq_false (by omega)
      have c2 : decide (1 < n.max) = false := decide_eq_false (by omega)
      rw [e, List.append_nil]
      repeat' (first | (refine W1 ?_) | (refine W2 (fun hc => ?_) (fun hc => ?_)) | (intro _))
      exact TX.join x.1 SubA (fun w' hw => St.inc IncQ hw)
  repeat' (first | ((refine TC.hold 6 ?_)) | (refine W1 ?_) | (refine W2 (fun hc => ?_) (fun hc => ?_)) | (intro _))
  refine ⟨TC.cutA (ι := (Option Addr × Nat) × List (List Value)) (fun _ r => r) (fun z => St w [dBlk b8 (.int .i64 (wideD s k + 4)) (.int .i64 (k.up + 2)) (.int .i64 (if n.min = 0 then k.dn + 1 else k.dn)) z.1 x.2.1 (TD.ss ++ repS1 n (wideD s k) k ++ repS2 n (wideD s k) k).length TD.ls.length, sOwn z.1 (TD.ss ++ repS1 n (wideD s k) k ++ repS2 n (wideD s k) k).length z.2, hSt z.2 (TD.ss ++ repS1 n (wideD s k) k ++ repS2 n (wideD s k) k), lOwn x.2.1 TD.ls.length x.2.2, hLb x.2.2 TD.ls, blk b5 [.int .i64 k.w, .int .i64 k.up, .int .i64 k.dn, .slice kp.1 k.ss.length kp.2, .slice kr.1 k.ls.length kr.2] 30, blk b2 (n.cells kv) 55, blk b4 [.int .i64 0, .int .i64 0, .int .i64 0, .slice none 0 0, .slice none 0 0] 30]) KpA ?_ (fun z => ?_)⟩
  · by_cases hc : n.min = 0
    · have e : repS2 n (wideD s k) k = [[(1, 0), (1, k.dn + 1), (wideD s k + 3, k.dn + 1), (wideD s k + 3, 0)]] := by unfold repS2; rw [if_pos hc]
      have c1 : decide (n.min = 0) = true := decide_eq_true hc
      rw [e, if_pos hc]
      repeat' (first | ((apply T.callV (f := 26); exact rfl; exact rfl; exact fun w' _ => point_any _ _ w' (fit53 (by omega)) (fit53 (by omega)))) | (refine W1 ?_) | (refine W2 (fun hc => ?_) (fun hc => ?_)) | (intro _))
      rename_i B
      refine T.callM (f := 54) (val := fun _ : (Option Addr × Nat) × List (List Value) => .tuple #[]) rfl rfl (fun w' hw' => stroke_lit b8 B _ _ _ y.1 x.2.1 _ 4 y.2 (TD.ss ++ repS1 n (wideD s k) k) [.complex .f64 4607182418800017408 0, .complex .f64 (FloatKind.f64.nearest 1) (FloatKind.f64.nearest (k.dn + 1)), .complex .f64 (FloatKind.f64.nearest (wideD s k + 3)) (FloatKind.f64.nearest (k.dn + 1)), .complex .f64 (FloatKind.f64.nearest (wideD s k + 3)) (FloatKind.f64.nearest 0)] [(1, 0), (1, k.dn + 1), (wideD s k + 3, k.dn + 1), (wideD s k + 3, 0)] w' rfl (by simp; omega) (by simp) (All2.more c10 (All2.more (cPt_point (fit53 (by omega)) (fit53 (by omega))) (All2.more (cPt_point (fit53 (by omega)) (fit53 (by omega))) (All2.more (cPt_point (fit53 (by omega)) (fit53 (by omega))) .nil)))) (L0 := [lOwn x.2.1 TD.ls.length x.2.2, hLb x.2.2 TD.ls, blk b5 [.int .i64 k.w, .int .i64 k.up, .int .i64 k.dn, .slice kp.1 k.ss.length kp.2, .slice kr.1 k.ls.length kr.2] 30, blk b2 (n.cells kv) 55, blk b4 [.int .i64 0, .int .i64 0, .int .i64 0, .slice none 0 0, .slice none 0 0] 30]) (by
      have g0 : St w [own 56 1 (some ⟨B, 0, none⟩) 4 4 [[.complex .f64 4607182418800017408 0], [.complex .f64 (FloatKind.f64.nearest 1) (FloatKind.f64.nearest (k.dn + 1))], [.complex .f64 (FloatKind.f64.nearest (wideD s k + 3)) (FloatKind.f64.nearest (k.dn + 1))], [.complex .f64 (FloatKind.f64.nearest (wideD s k + 3)) (FloatKind.f64.nearest 0)]], dBlk b8 (.int .i64 (wideD s k + 4)) (.int .i64 (k.up + 2)) (.int .i64 (k.dn + 1)) y.1 x.2.1 (TD.ss ++ repS1 n (wideD s k) k).length TD.ls.length, sOwn y.1 (TD.ss ++ repS1 n (wideD s k) k).length y.2, hSt y.2 (TD.ss ++ repS1 n (wideD s k) k), lOwn x.2.1 TD.ls.length x.2.2, hLb x.2.2 TD.ls, blk b5 [.int .i64 k.w, .int .i64 k.up, .int .i64 k.dn, .slice kp.1 k.ss.length kp.2, .slice kr.1 k.ls.length kr.2] 30, blk b2 (n.cells kv) 55, blk b4 [.int .i64 0, .int .i64 0, .int .i64 0, .slice none 0 0, .slice none 0 0] 30] w' := hw'
      have g1 : St w [own 56 1 (some ⟨B, 0, none⟩) 4 4 [[.complex .f64 4607182418800017408 0], [.complex .f64 (FloatKind.f64.nearest 1) (FloatKind.f64.nearest (k.dn + 1))], [.complex .f64 (FloatKind.f64.nearest (wideD s k + 3)) (FloatKind.f64.nearest (k.dn + 1))], [.complex .f64 (FloatKind.f64.nearest (wideD s k + 3)) (FloatKind.f64.nearest 0)]], dBlk b8 (.int .i64 (wideD s k + 4)) (.int .i64 (k.up + 2)) (.int .i64 (k.dn + 1)) y.1 x.2.1 (TD.ss ++ repS1 n (wideD s k) k).length TD.ls.length, sOwn y.1 (TD.ss ++ repS1 n (wideD s k) k).length y.2, hSt y.2 (TD.ss ++ repS1 n (wideD s k) k), lOwn x.2.1 TD.ls.length x.2.2, hLb x.2.2 TD.ls, blk b5 [.int .i64 k.w, .int .i64 k.up, .int .i64 k.dn, .slice kp.1 k.ss.length kp.2, .slice kr.1 k.ls.length kr.2] 30, blk b2 (n.cells kv) 55, blk b4 [.int .i64 0, .int .i64 0, .int .i64 0, .slice none 0 0, .slice none 0 0] 30] w' := St.inc IncQ g0
      exact g1)) (fun u => ?_)
      repeat' (first | (refine W1 ?_) | (refine W2 (fun hc => ?_) (fun hc => ?_)) | (intro _))
      exact TX.join u SubA (fun w' hw => St.inc IncQ hw)
    · have e : repS2 n (wideD s k) k = [] := by unfold repS2; rw [if_neg hc]
      have c1 : decide (n.min = 0) = false := decide_eq_false hc
      rw [e, if_neg hc, List.append_nil]
      repeat' (first | (refine W1 ?_) | (refine W2 (fun hc => ?_) (fun hc => ?_)) | (intro _))
      exact TX.join y SubA (fun w' hw => St.inc IncQ hw)
  generalize hdn : (if n.min = 0 then k.dn + 1 else k.dn) = dn at *
  repeat' (first | (refine W1 ?_) | (refine W2 (fun hc => ?_) (fun hc => ?_)) | (intro _))
  refine TX.ret_gen (rs := [.cell 4 30]) (vs := [.agg #[.int .i64 (wideD s k + 4), .int .i64 (k.up + 2), .int .i64 dn, .slice z.1.1 (TD.ss ++ repS1 n (wideD s k) k ++ repS2 n (wideD s k) k).length z.1.2, .slice x.2.1.1 TD.ls.length x.2.1.2]]) rfl (.cell rfl (blk_res (cs := [.int .i64 (wideD s k + 4), .int .i64 (k.up + 2), .int .i64 dn, .slice z.1.1 (TD.ss ++ repS1 n (wideD s k) k ++ repS2 n (wideD s k) k).length z.1.2, .slice x.2.1.1 TD.ls.length x.2.1.2]) AtA rfl) .nil) (fun w' hw => ?_)
  have g := dret (d := ⟨wideD s k + 4, k.up + 2, dn, (TD.ss ++ repS1 n (wideD s k) k ++ repS2 n (wideD s k) k), TD.ls⟩) (p := z.1) (q := x.2.1) (rows := z.2) (lrows := x.2.2) (St.inc IncQ hw)
  have e : repD n s k = ⟨wideD s k + 4, k.up + 2, dn, (TD.ss ++ repS1 n (wideD s k) k ++ repS2 n (wideD s k) k), TD.ls⟩ := by rw [hT]; simp only [hTw, hTu]
  rw [e]
  exact g
end Go.Proofs.YtalnmednhhimhaaDoor
