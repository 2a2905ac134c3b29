/-
  RailNames' own figures, in plain Lean.
-/
import Derived.Test.YtalnmednhhimhaaDoorSheet
import Derived.Lib.ItoaLen
set_option linter.all false
namespace Go.Bonsai
open Go Go.Sl Go.RowKit
def repN (a b : Int) : Nod := ⟨6, .zero, ⟨#[]⟩, a, b, []⟩
abbrev NamR := Int × Int × ByteArray × Int
def namT : List NamR := [(0, 1, ⟨#[63]⟩, 6), (0, -1, ⟨#[42]⟩, 7), (1, -1, ⟨#[43]⟩, 6), (0, 0, ⟨#[123, 48, 125]⟩, 6), (1, 1, ⟨#[123, 49, 125]⟩, 5), (2, 2, ⟨#[123, 50, 125]⟩, 6), (2, -1, ⟨#[123, 50, 44, 125]⟩, 6), (0, 2, ⟨#[123, 48, 44, 50, 125]⟩, 7), (10, 99, ⟨#[123, 49, 48, 44, 57, 57, 125]⟩, 6)]
structure NamF (r : NamR) (D : Drw) : Prop where
  n : D.ls.length = 2
  l0 : D.ls[0]? = some ((2, -3), r.2.2.1)
  w : D.w = max 5 (r.2.2.1.size : Int) + 4
  up : D.up = 3
  dn : D.dn = if r.1 = 0 then 2 else 1
  ss : (D.ss.length : Int) = r.2.2.2
def namB (r : NamR) : Bool := let d := drawB (ofP (repN r.1 r.2.1) [rule6 [120]]).1
  d.2 && decide (d.1.ls.length = 2) && decide (d.1.ls[0]? = some ((2, -3), r.2.2.1)) && decide (d.1.w = max 5 (r.2.2.1.size : Int) + 4) && decide (d.1.up = 3) && decide (d.1.dn = if r.1 = 0 then 2 else 1) && decide ((d.1.ss.length : Int) = r.2.2.2) && decide (r.2.2.1.size ≤ 10) && decide (-100 ≤ r.1 ∧ r.1 ≤ 100) && decide (-100 ≤ r.2.1 ∧ r.2.1 ≤ 100)
theorem nam1 : namT.all namB = true := by decide +kernel
def namV (r : NamR) : Value := .agg #[.int .i64 r.1, .int .i64 r.2.1, .string r.2.2.1, .int .i64 r.2.2.2]
def namL (r : NamR) : List Value := [.int .i64 r.1, .int .i64 r.2.1, .string r.2.2.1, .int .i64 r.2.2.2]
structure NamW (r : NamR) (q : Drw × Bool) : Prop where
  ok : q.2 = true
  n : q.1.ls.length = 2
  l0 : q.1.ls[0]? = some ((2, -3), r.2.2.1)
  w : q.1.w = max 5 (r.2.2.1.size : Int) + 4
  up : q.1.up = 3
  dn : q.1.dn = if r.1 = 0 then 2 else 1
  ss : (q.1.ss.length : Int) = r.2.2.2
  sz : r.2.2.1.size ≤ 10
  a : -100 ≤ r.1 ∧ r.1 ≤ 100
  b : -100 ≤ r.2.1 ∧ r.2.1 ≤ 100
theorem nam2 : ∀ r ∈ namT, NamW r (drawB (ofP (repN r.1 r.2.1) [rule6 [120]]).1) := by
  intro r hr
  have h := List.all_eq_true.1 nam1 r hr
  simp only [namB, Bool.and_eq_true, decide_eq_true_eq] at h
  obtain ⟨⟨⟨⟨⟨⟨⟨⟨⟨h1, h2⟩, h3⟩, h4⟩, h5⟩, h6⟩, h7⟩, h8⟩, h9⟩, h10⟩ := h
  exact ⟨h1, h2, h3, h4, h5, h6, h7, h8, h9, h10⟩
theorem repN_wf {r : NamR} {q : Drw × Bool} (h : NamW r q) : (repN r.1 r.2.1).wf := by
  have h1 := h.a; have h2 := h.b
  exact ⟨by show (0 : Int) ≤ 6 ∧ (6 : Int) ≤ 255; omega, by show Bts.zero.wf; unfold Bts.wf Bts.zero; decide, by show (⟨#[]⟩ : ByteArray).size ≤ _; decide, by show I64 r.1; unfold I64; omega, by show I64 r.2.1; unfold I64; omega, ⟨by simp [repN], by simp [repN]⟩⟩
def seq6 : Nod := ⟨4, .zero, ⟨#[]⟩, 0, 0, []⟩
def cap7 : Nod := ⟨7, .zero, ⟨#[]⟩, 0, 0, []⟩
def not8 : Nod := ⟨8, .zero, ⟨#[]⟩, 0, 0, []⟩
def cap9 : Nod := ⟨9, .zero, ⟨#[110, 97, 109, 101, 95, 111, 102, 95, 105, 116]⟩, 0, 0, []⟩
def set6 : Tre := ⟨[⟨1, .zero, ⟨#[]⟩, 0, 0, []⟩], 0⟩
def bad6 : Tre := ⟨[⟨4, .zero, ⟨#[]⟩, 0, 0, []⟩], 0⟩
theorem siz1 : sizeB (drawB (ofP seq6 [rule6 [120], text6 [97, 98], empty6]).1) 19 1 1 9 2 = true := by decide +kernel
theorem siz2 : sizeB (drawB (ofP cap7 [rule6 [120]]).1) 9 3 2 6 2 = true := by decide +kernel
theorem siz3 : sizeB (drawB (ofP not8 [empty6]).1) 6 2 1 4 1 = true := by decide +kernel
theorem siz4 : sizeB (drawB (ofP cap9 [rule6 [120]]).1) 15 3 2 6 2 = true := by decide +kernel
theorem siz5 : sizeB (drawB set6) 6 1 1 3 1 = true := by decide +kernel
theorem bad1 : drawB bad6 = (.zero, false) := by
  unfold drawB
  rw [if_neg (by decide +kernel)]
def deepP : Nat → Tre
  | 0 => rule6 [120]
  | i + 1 => (ofP not8 [deepP i]).1
theorem deep1 : drawB (deepP 32) = (.zero, false) := by
  unfold drawB
  rw [if_neg (by decide +kernel)]
theorem deep2 : (List.range 33).all (fun i => decide ((deepP i).nodes.length ≤ 40)) = true := by decide +kernel
theorem deep_len {i : Nat} (h : i ≤ 32) : (deepP i).nodes.length ≤ 40 := by
  have := List.all_eq_true.1 deep2 i (List.mem_range.2 (by omega))
  exact of_decide_eq_true this
theorem deep_tot {i : Nat} (h : i ≤ 32) : tot [deepP i] + 1 ≤ bigN := by
  have := deep_len h
  simp only [tot, List.map_cons, List.map_nil, List.sum_cons, List.sum_nil]
  unfold bigN
  omega
theorem not8_wf : not8.wf := ⟨by show (0 : Int) ≤ 8 ∧ (8 : Int) ≤ 255; omega, by show Bts.zero.wf; unfold Bts.wf Bts.zero; decide, by show (⟨#[]⟩ : ByteArray).size ≤ _; decide, by show I64 0; unfold I64; omega, by show I64 0; unfold I64; omega, ⟨by simp [not8], by simp [not8]⟩⟩
theorem rule6_wf : (rule6 [120]).wf := ⟨by show 1 ≤ bigN; unfold bigN; omega, fun m hm => by
  simp [rule6] at hm
  subst hm
  exact ⟨by show (0 : Int) ≤ 3 ∧ (3 : Int) ≤ 255; omega, by show Bts.zero.wf; unfold Bts.wf Bts.zero; decide, by show (⟨#[120]⟩ : ByteArray).size ≤ _; decide, by show I64 0; unfold I64; omega, by show I64 0; unfold I64; omega, ⟨by simp, by simp⟩⟩, ⟨by show (-9223372036854775808 : Int) ≤ 0; decide, by show (0 : Int) ≤ 9223372036854775807; decide⟩⟩
theorem deep_wf : ∀ i : Nat, i ≤ 32 → (deepP i).wf
  | 0, _ => rule6_wf
  | i + 1, h => ofP_wf not8_wf (fun t ht => by rw [List.mem_singleton] at ht; subst ht; exact deep_wf i (by omega)) (deep_tot (by omega))
theorem all2_rep {α β : Type} {R : α → β → Prop} {a : α} {b : β} (h : R a b) : ∀ n : Nat, All2 R (List.replicate n a) (List.replicate n b)
  | 0 => .nil
  | n + 1 => ⟨by simp, fun i x y hx hy => by rw [(List.mem_replicate.1 (List.mem_of_getElem? hx)).2, (List.mem_replicate.1 (List.mem_of_getElem? hy)).2]; exact h⟩
/-- nothing held -/
def hNone : HP := ⟨fun _ _ => True, fun _ h => h, fun _ h => h⟩
/-- the deep tree's nodes: at first the leaf's own -/
def hDeep (i : Nat) (q : Option Addr × Nat) : HP := if i = 0 then hNone else hNodes (.slice q.1 (deepP i).nodes.length q.2) (deepP i).nodes
theorem sh0 : sheetB [] = (.zero, false) := rfl
theorem sh1 : sheetB [(⟨#[97]⟩, rule6 [120]), (⟨#[98]⟩, bad6)] = (.zero, false) := by
  unfold sheetB
  rw [if_neg (by decide), if_neg (by decide +kernel)]
theorem sh2 (r : Row) : sheetB (List.replicate 65 r) = (.zero, false) := by
  unfold sheetB
  rw [if_pos (by rw [List.length_replicate]; omega)]
def twoR : List Row := [(⟨#[111, 110, 101]⟩, rule6 [120]), (⟨#[63]⟩, text6 [97, 98, 99])]
theorem sh3 : (sheetB twoR).2 = true ∧ (sheetB twoR).1.w = 9 ∧ (sheetB twoR).1.up = 0 ∧ (sheetB twoR).1.dn = 8 ∧ (sheetB twoR).1.ls.map (·.1) = [(0, 0), (2, 2), (0, 5), (2, 7)] ∧ ((sheetB twoR).1.ls.map (·.2))[0]? = some ⟨#[111, 110, 101]⟩ ∧ ((sheetB twoR).1.ls.map (·.2))[2]? = some ⟨#[63]⟩ := by decide +kernel
def minD : Drw := ⟨-1, 0, 0, [], [((1, -1), ⟨#[116]⟩)]⟩
theorem min1 : showL (fun x => ⟨(Lib.itoa x).toArray⟩) minD = [115, 105, 122, 101, 32, 45, 49, 32, 48, 32, 48, 10, 108, 97, 98, 101, 108, 32, 49, 44, 45, 49, 32, 116, 10] := by decide +kernel
end Go.Bonsai
