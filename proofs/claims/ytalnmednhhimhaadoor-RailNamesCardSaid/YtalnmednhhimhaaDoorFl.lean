/-
  Whole numbers as words of binary64: what is added, compared, made whole, stays exact within 2^53.
-/
import GoSem.Core.Float
set_option linter.all false
namespace Go.Fl
open Ieee
/-- the word of a whole number's size, of at most 53 digits -/
def wd (neg : Bool) (n : Nat) : Nat := double.word neg (if n = 0 then 0 else (n.log2 + 1022) * 2 ^ 52 + n * 2 ^ (52 - n.log2))
/-- the word of a whole number -/
def fw (n : Int) : Nat := wd (decide (n < 0)) n.natAbs

theorem log2_le {n k : Nat} (h0 : n ≠ 0) (h : n < 2 ^ (k + 1)) : n.log2 ≤ k := by
  have := (Nat.log2_lt h0).2 h
  omega
theorem log2_mul {n e : Nat} (h0 : n ≠ 0) : (n * 2 ^ e).log2 = n.log2 + e := by
  have hp : 0 < 2 ^ e := Nat.two_pow_pos e
  have h1 : n * 2 ^ e ≠ 0 := Nat.mul_ne_zero h0 (Nat.ne_of_gt hp)
  refine (Nat.log2_eq_iff h1).2 ⟨?_, ?_⟩
  · rw [Nat.pow_add]
    exact Nat.mul_le_mul_right _ (Nat.log2_self_le h0)
  · have h2 : n < 2 ^ (n.log2 + 1) := Nat.lt_log2_self
    rw [show n.log2 + e + 1 = (n.log2 + 1) + e by omega, Nat.pow_add]
    exact Nat.mul_lt_mul_of_pos_right h2 hp
theorem cut_exact {way : Toward} {neg : Bool} {n d : Nat} : way.cut neg (n * 2 ^ d) d = n := by
  unfold Toward.cut
  by_cases h0 : n = 0
  · subst h0
    simp only [Nat.zero_mul, Nat.zero_div, Nat.zero_mod]
    cases way <;> simp [Nat.one_shiftLeft]
  · have hmin : min d ((n * 2 ^ d).log2 + 2) = d := by rw [log2_mul h0]; omega
    have hp : 0 < 2 ^ d := Nat.two_pow_pos d
    simp only [hmin, Nat.one_shiftLeft]
    rw [Nat.mul_mod_left, Nat.mul_div_cancel _ hp]
    cases way <;> simp
theorem nearest_exact {neg : Bool} {n e : Nat} (hn : n < 2 ^ 53) : double.nearest neg (n * 2 ^ e) (-(e : Int)) = wd neg n := by
  unfold Format.nearest wd
  by_cases h0 : n = 0
  · subst h0; simp
  have hp : 0 < 2 ^ e := Nat.two_pow_pos e
  have h1 : n * 2 ^ e ≠ 0 := Nat.mul_ne_zero h0 (Nat.ne_of_gt hp)
  have hk : n.log2 ≤ 52 := log2_le h0 hn
  rw [if_neg h1, if_neg h0, log2_mul h0]
  have hfb : double.fractionBits = 52 := rfl
  have hlp : double.leastPlace = -1074 := by decide
  have hb : double.binade = 2 ^ 52 := rfl
  have hir : double.infRung = 2047 * 2 ^ 52 := by decide
  have hlast : max (-(e : Int) + ((n.log2 + e : Nat) : Int) - (52 : Nat)) (-1074) = (n.log2 : Int) - 52 := by omega
  simp only [hfb, hlp, hb, hir, hlast]
  have hkept : Toward.even.cut neg ((n * 2 ^ e) <<< (-(e : Int) - ((n.log2 : Int) - 52)).toNat) (((n.log2 : Int) - 52 - -(e : Int)).toNat) = n * 2 ^ (52 - n.log2) := by
    by_cases hc : n.log2 + e ≤ 52
    · have e1 : (-(e : Int) - ((n.log2 : Int) - 52)).toNat = 52 - n.log2 - e := by omega
      have e2 : ((n.log2 : Int) - 52 - -(e : Int)).toNat = 0 := by omega
      rw [e1, e2, Nat.shiftLeft_eq, Nat.mul_assoc, ← Nat.pow_add, show e + (52 - n.log2 - e) = 52 - n.log2 from by omega]
      have := cut_exact (way := .even) (neg := neg) (n := n * 2 ^ (52 - n.log2)) (d := 0)
      simpa using this
    · have e1 : (-(e : Int) - ((n.log2 : Int) - 52)).toNat = 0 := by omega
      have e2 : ((n.log2 : Int) - 52 - -(e : Int)).toNat = n.log2 + e - 52 := by omega
      rw [e1, e2, Nat.shiftLeft_zero]
      have h3 : n * 2 ^ e = (n * 2 ^ (52 - n.log2)) * 2 ^ (n.log2 + e - 52) := by
        rw [Nat.mul_assoc, ← Nat.pow_add, show 52 - n.log2 + (n.log2 + e - 52) = e by omega]
      rw [h3, cut_exact]
  rw [hkept]
  have e3 : ((n.log2 : Int) - 52 - -1074).toNat = n.log2 + 1022 := by omega
  rw [e3]
  have hlt : n * 2 ^ (52 - n.log2) < 2 ^ 53 := by
    have h2 : n < 2 ^ (n.log2 + 1) := Nat.lt_log2_self
    calc n * 2 ^ (52 - n.log2) < 2 ^ (n.log2 + 1) * 2 ^ (52 - n.log2) := Nat.mul_lt_mul_of_pos_right h2 (Nat.two_pow_pos _)
      _ = 2 ^ 53 := by rw [← Nat.pow_add]; congr 1; omega
  rw [Nat.min_eq_left (by omega)]
theorem mant_lo {n : Nat} (h0 : n ≠ 0) (hk : n.log2 ≤ 52) : 2 ^ 52 ≤ n * 2 ^ (52 - n.log2) := by
  calc 2 ^ 52 = 2 ^ n.log2 * 2 ^ (52 - n.log2) := by rw [← Nat.pow_add]; congr 1; omega
    _ ≤ n * 2 ^ (52 - n.log2) := Nat.mul_le_mul_right _ (Nat.log2_self_le h0)
theorem mant_hi {n : Nat} (hk : n.log2 ≤ 52) : n * 2 ^ (52 - n.log2) < 2 ^ 53 := by
  have h2 : n < 2 ^ (n.log2 + 1) := Nat.lt_log2_self
  calc n * 2 ^ (52 - n.log2) < 2 ^ (n.log2 + 1) * 2 ^ (52 - n.log2) := Nat.mul_lt_mul_of_pos_right h2 (Nat.two_pow_pos _)
    _ = 2 ^ 53 := by rw [← Nat.pow_add]; congr 1; omega

/-- a word that stands for a whole number -/
def Den (w : Nat) (x : Int) : Prop := ∃ (s : Bool) (e : Nat), double.read w = .number s (x.natAbs * 2 ^ e) (-(e : Int)) ∧ (x < 0 → s = true) ∧ (0 < x → s = false)
theorem read_word {neg : Bool} {r : Nat} (h : r < 2 ^ 63) : double.read (double.word neg r) = if r < 2 ^ 52 then .number neg r (-1074) else if r < 2047 * 2 ^ 52 then .number neg (2 ^ 52 + r % 2 ^ 52) (-1074 + (r / 2 ^ 52 - 1 : Nat)) else if r = 2047 * 2 ^ 52 then .infinity neg else .nan neg (r - 2047 * 2 ^ 52) := by
  have hlp : double.leastPlace = -1074 := by decide
  have hb : double.binade = 2 ^ 52 := rfl
  have hir : double.infRung = 2047 * 2 ^ 52 := by decide
  have hsw : double.signWeight = 2 ^ 63 := rfl
  unfold Format.read Format.word
  simp only [hlp, hb, hir, hsw]
  have h1 : ((if neg = true then 2 ^ 63 + r else r) / 2 ^ 63 % 2 == 1) = neg := by
    cases neg
    · simp only [Bool.false_eq_true, if_false]; rw [Nat.div_eq_of_lt h]; rfl
    · simp only [if_true]; rw [show (2 ^ 63 + r) / 2 ^ 63 = 1 by omega]; rfl
  have h2 : (if neg = true then 2 ^ 63 + r else r) % 2 ^ 63 = r := by
    cases neg
    · simp only [Bool.false_eq_true, if_false]; exact Nat.mod_eq_of_lt h
    · simp only [if_true]; omega
  rw [h1, h2]
theorem den_wd {s : Bool} {n : Nat} (hn : n < 2 ^ 53) : double.read (wd s n) = if n = 0 then .number s 0 (-1074) else .number s (n * 2 ^ (52 - n.log2)) (-((52 - n.log2 : Nat) : Int)) := by
  unfold wd
  by_cases h0 : n = 0
  · subst h0
    rw [if_pos rfl, if_pos rfl, read_word (by omega), if_pos (by omega)]
  · have hk : n.log2 ≤ 52 := log2_le h0 hn
    have hlo := mant_lo h0 hk
    have hhi := mant_hi (n := n) hk
    rw [if_neg h0, if_neg h0]
    generalize n * 2 ^ (52 - n.log2) = N at *
    rw [read_word (by omega), if_neg (by omega), if_pos (by omega)]
    congr 1
    · omega
    · omega
theorem den_of {w : Nat} {s : Bool} {n : Nat} {x : Int} (hn : n < 2 ^ 53) (hw : w = wd s n) (ha : x.natAbs = n) (h1 : x < 0 → s = true) (h2 : 0 < x → s = false) : Den w x := by
  subst hw
  rw [Den, den_wd hn]
  by_cases h0 : n = 0
  · obtain ⟨e, he⟩ : ∃ e : Nat, e = 1074 := ⟨_, rfl⟩
    exact ⟨s, e, by rw [if_pos h0, ha, h0, Nat.zero_mul, he]; rfl, h1, h2⟩
  · exact ⟨s, 52 - n.log2, by rw [if_neg h0, ha], h1, h2⟩
theorem den_fw {x : Int} (h : x.natAbs < 2 ^ 53) : Den (fw x) x := den_of h rfl rfl (fun h => by simp [h]) (fun h => by simp; omega)
theorem nearest_fw {x : Int} (h : x.natAbs < 2 ^ 53) : FloatKind.f64.nearest x = fw x := by
  show double.nearest (decide (x < 0)) x.natAbs 0 = _
  have := nearest_exact (neg := decide (x < 0)) (n := x.natAbs) (e := 0) h
  simpa [fw] using this
theorem signed_den {s : Bool} {x : Int} {e up : Nat} (h1 : x < 0 → s = true) (h2 : 0 < x → s = false) : signed s (x.natAbs * 2 ^ e) up = x * 2 ^ (e + up) := by
  unfold signed
  rw [Nat.shiftLeft_eq, Nat.mul_assoc, ← Nat.pow_add]
  have hc : ((x.natAbs * 2 ^ (e + up) : Nat) : Int) = (x.natAbs : Int) * 2 ^ (e + up) := by rw [Int.natCast_mul, Int.natCast_pow]; rfl
  rw [hc]
  rcases Int.lt_trichotomy x 0 with h | h | h
  · rw [h1 h, if_pos rfl, ← Int.neg_mul, show -(x.natAbs : Int) = x by omega]
  · subst h; simp
  · rw [h2 h, if_neg (by simp), show (x.natAbs : Int) = x by omega]
theorem pow_pos_int (k : Nat) : (0 : Int) < 2 ^ k := by
  have := Nat.two_pow_pos k
  have h : ((2 ^ k : Nat) : Int) = 2 ^ k := by rw [Int.natCast_pow]; rfl
  omega
/-- a sum -/
theorem add_den {a b : Nat} {x y : Int} (ha : Den a x) (hb : Den b y) (h : (x + y).natAbs < 2 ^ 53) : ∃ s, double.add a b = some (wd s (x + y).natAbs) ∧ (x + y < 0 → s = true) ∧ (0 < x + y → s = false) ∧ (a = fw x → b = fw y → x.natAbs < 2 ^ 53 → y.natAbs < 2 ^ 53 → x + y = 0 → s = false) := by
  obtain ⟨s, i, ra, s1, s2⟩ := ha
  obtain ⟨t, j, rb, t1, t2⟩ := hb
  have hadd : double.add a b = some (double.nearest (if (x + y) * 2 ^ (max i j) = 0 then s && t else decide ((x + y) * 2 ^ (max i j) < 0)) ((x + y) * 2 ^ (max i j)).natAbs (-((max i j : Nat) : Int))) := by
    unfold Format.add
    rw [ra, rb]
    unfold Datum.sum
    have hm : min (-(i : Int)) (-(j : Int)) = -((max i j : Nat) : Int) := by omega
    have e1 : (-(i : Int) - -((max i j : Nat) : Int)).toNat = max i j - i := by omega
    have e2 : (-(j : Int) - -((max i j : Nat) : Int)).toNat = max i j - j := by omega
    simp only [hm, e1, e2, signed_den s1 s2, signed_den t1 t2]
    rw [show i + (max i j - i) = max i j by omega, show j + (max i j - j) = max i j by omega, ← Int.add_mul]
    simp [Format.write]
  have hp := pow_pos_int (max i j)
  have hz : (x + y) * 2 ^ (max i j) = 0 ↔ x + y = 0 := by
    constructor
    · intro h
      rcases Int.mul_eq_zero.1 h with h | h
      · exact h
      · omega
    · intro h; rw [h]; simp
  have hneg : (x + y) * 2 ^ (max i j) < 0 ↔ x + y < 0 := by
    constructor
    · intro h
      by_cases h' : x + y < 0
      · exact h'
      · have := Int.mul_nonneg (show 0 ≤ x + y by omega) (Int.le_of_lt hp); omega
    · intro h; exact Int.mul_neg_of_neg_of_pos h hp
  have hab : ((x + y) * 2 ^ (max i j)).natAbs = (x + y).natAbs * 2 ^ (max i j) := by
    rw [Int.natAbs_mul, Int.natAbs_pow]; rfl
  rw [hab, nearest_exact h] at hadd
  refine ⟨_, hadd, fun hl => ?_, fun hg => ?_, fun ea eb hx hy h0 => ?_⟩
  · rw [if_neg (by rw [hz]; omega)]; exact decide_eq_true (hneg.2 hl)
  · rw [if_neg (by rw [hz]; omega)]; exact decide_eq_false (by rw [hneg]; omega)
  · rw [if_pos (hz.2 h0)]
    have hs : ∀ {z : Int} {c : Nat} {u : Bool} {k : Nat}, c = fw z → z.natAbs < 2 ^ 53 → double.read c = .number u (z.natAbs * 2 ^ k) (-(k : Int)) → u = decide (z < 0) := by
      intro z c u k hc hz hr
      rw [hc, fw, den_wd hz] at hr
      split at hr <;> injection hr with h1 <;> exact h1.symm
    rw [hs ea hx ra, hs eb hy rb]
    simp only [Bool.and_eq_false_iff, decide_eq_false_iff_not]
    omega
theorem add_fw {x y : Int} (hx : x.natAbs < 2 ^ 53) (hy : y.natAbs < 2 ^ 53) (h : (x + y).natAbs < 2 ^ 53) : double.add (fw x) (fw y) = some (fw (x + y)) := by
  obtain ⟨s, h1, h2, h3, h4⟩ := add_den (den_fw hx) (den_fw hy) h
  rw [h1, fw]
  congr 2
  rcases Int.lt_trichotomy (x + y) 0 with hl | hl | hl
  · rw [h2 hl]; simp [hl]
  · rw [h4 rfl rfl hx hy hl]; simp [hl]
  · rw [h3 hl]; simp; omega
theorem order_den {a b : Nat} {x y : Int} (ha : Den a x) (hb : Den b y) : double.order a b = some (compare x y) := by
  obtain ⟨s, i, ra, s1, s2⟩ := ha
  obtain ⟨t, j, rb, t1, t2⟩ := hb
  unfold Format.order
  rw [ra, rb]
  unfold Datum.order
  have hm : min (-(i : Int)) (-(j : Int)) = -((max i j : Nat) : Int) := by omega
  have e1 : (-(i : Int) - -((max i j : Nat) : Int)).toNat = max i j - i := by omega
  have e2 : (-(j : Int) - -((max i j : Nat) : Int)).toNat = max i j - j := by omega
  simp only [hm, e1, e2, signed_den s1 s2, signed_den t1 t2]
  rw [show i + (max i j - i) = max i j by omega, show j + (max i j - j) = max i j by omega]
  have hp := pow_pos_int (max i j)
  congr 1
  show (if _ then _ else if _ then _ else _) = (if _ then _ else if _ then _ else _)
  have hlt : x * 2 ^ (max i j) < y * 2 ^ (max i j) ↔ x < y := ⟨fun h => Int.lt_of_mul_lt_mul_right h (Int.le_of_lt hp), fun h => Int.mul_lt_mul_of_pos_right h hp⟩
  have heq : x * 2 ^ (max i j) = y * 2 ^ (max i j) ↔ x = y := ⟨fun h => Int.eq_of_mul_eq_mul_right (by omega) h, fun h => by rw [h]⟩
  simp only [hlt, heq]
theorem toInt_den {a : Nat} {x : Int} (ha : Den a x) : (double.read a).toInt .zero = some x := by
  obtain ⟨s, i, ra, s1, s2⟩ := ha
  unfold Datum.toInt Datum.integral
  rw [ra]
  simp only
  have e1 : (-(i : Int)).toNat = 0 := by omega
  have e2 : (- -(i : Int)).toNat = i := by omega
  rw [e1, e2, Nat.shiftLeft_zero, cut_exact]
  have := signed_den (e := 0) (up := 0) s1 s2
  simpa using this
theorem floor_den {a : Nat} {x : Int} (ha : Den a x) (h : x.natAbs < 2 ^ 53) : ∃ s, double.write ((double.read a).integral .down) = wd s x.natAbs ∧ (x < 0 → s = true) ∧ (0 < x → s = false) ∧ (a = fw x → wd s x.natAbs = fw x) := by
  obtain ⟨s, i, ra, s1, s2⟩ := ha
  unfold Datum.integral
  have ra' := ra
  rw [ra]
  simp only
  have e1 : (-(i : Int)).toNat = 0 := by omega
  have e2 : (- -(i : Int)).toNat = i := by omega
  rw [e1, e2, Nat.shiftLeft_zero, cut_exact]
  refine ⟨s, ?_, s1, s2, fun hw => ?_⟩
  · have := nearest_exact (neg := s) (n := x.natAbs) (e := 0) h
    simpa [Format.write] using this
  · rw [hw, fw, den_wd h] at ra'
    have hs : decide (x < 0) = s := by
      split at ra' <;> injection ra'
    rw [← hs]; rfl
end Go.Fl
