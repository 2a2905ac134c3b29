/-
  Names, as plain functions on bytes.
-/
import Derived.WalkKit
set_option linter.all false
namespace Go.Bonsai

def digitB (b : Int) : Bool := decide (48 ≤ b) && decide (b ≤ 57)
def letterB (b : Int) : Bool := (decide (97 ≤ b) && decide (b ≤ 122)) || (decide (65 ≤ b) && decide (b ≤ 90)) || decide (b = 95)
def goodB (b : UInt8) : Bool := letterB b.toNat || digitB b.toNat
/-- how many letters and digits stand ahead -/
def runN (l : List UInt8) : Nat := (l.takeWhile goodB).length
/-- a text begins with a letter -/
def headB : List UInt8 → Bool
  | [] => false
  | b :: _ => letterB b.toNat
def takeB (s : ByteArray) : ByteArray := if headB s.data.toList then s.extract 0 (runN s.data.toList) else ⟨#[]⟩
def mayB (s : ByteArray) : Bool := decide (s.size ≤ 32) && headB s.data.toList && s.data.toList.all goodB

theorem runN_le (l : List UInt8) : runN l ≤ l.length := by
  unfold runN
  exact List.Sublist.length_le (List.takeWhile_sublist _)
theorem runN_spec : ∀ (l : List UInt8) (k : Nat), k ≤ l.length → (∀ j b, j < k → l[j]? = some b → goodB b = true) → (∀ b, l[k]? = some b → goodB b = false) → k = runN l
  | [], k, hk, _, _ => by simp at hk; subst hk; rfl
  | c :: l, 0, _, _, h2 => by
    have := h2 c (by simp)
    simp [runN, List.takeWhile, this]
  | c :: l, k + 1, hk, h1, h2 => by
    have hc := h1 0 c (by omega) (by simp)
    have ih := runN_spec l k (by simpa using hk) (fun j b hj hb => h1 (j + 1) b (by omega) (by simpa using hb)) (fun b hb => h2 b (by simpa using hb))
    simp only [runN, List.takeWhile_cons, hc, if_true, List.length_cons]
    simp only [runN] at ih
    omega
theorem runN_all (l : List UInt8) : (runN l = l.length) ↔ l.all goodB = true := by
  induction l with
  | nil => simp [runN]
  | cons c l ih =>
    unfold runN at *
    rw [List.takeWhile_cons]
    by_cases hc : goodB c = true
    · simp [hc]
      simpa using ih
    · simp [hc]
theorem size_takeB (s : ByteArray) : (takeB s).size = if headB s.data.toList then runN s.data.toList else 0 := by
  unfold takeB
  have := runN_le s.data.toList
  have hs : s.data.toList.length = s.size := Array.length_toList
  split
  · rw [ByteArray.size_extract]; omega
  · rfl
theorem takeB_size_le (s : ByteArray) : (takeB s).size ≤ s.size := by
  rw [size_takeB]
  have := runN_le s.data.toList
  have hs : s.data.toList.length = s.size := Array.length_toList
  split <;> omega
theorem takeB_full (s : ByteArray) (h : (takeB s).size = s.size) (hs : s ≠ ⟨#[]⟩) : takeB s = s := by
  rw [size_takeB] at h
  have hs' : s.data.toList.length = s.size := Array.length_toList
  unfold takeB
  split at h
  · rename_i hh
    rw [if_pos hh, h]
    apply ByteArray.ext
    simp
  · exact absurd (ByteArray.ext (Array.eq_empty_of_size_eq_zero h.symm)) hs
theorem mayB_eq (s : ByteArray) : mayB s = (!decide (s = ⟨#[]⟩) && decide (s.size ≤ 32) && decide ((takeB s).size = s.size)) := by
  unfold mayB
  have hs : s.data.toList.length = s.size := Array.length_toList
  rw [size_takeB]
  by_cases he : s = ⟨#[]⟩
  · subst he; simp [headB]
  · have hne : s.size ≠ 0 := fun h => he (ByteArray.ext (Array.eq_empty_of_size_eq_zero h))
    cases hh : headB s.data.toList with
    | false =>
      have : ¬ (0 = s.size) := by omega
      simp [he, this]
    | true =>
      have := runN_all s.data.toList
      rw [hs] at this
      by_cases hb : s.data.toList.all goodB = true
      · simp only [this.2 hb, hb, he]; simp
      · have h2 : ¬ (runN s.data.toList = s.size) := fun h => hb (this.1 h)
        have hb' : s.data.toList.all goodB = false := by simpa using hb
        rw [hb']
        simp [h2]
theorem mayB_eq' (s : ByteArray) : mayB s = (!decide (s = ⟨#[]⟩) && decide (s.size ≤ 32) && decide (takeB s = s)) := by
  rw [mayB_eq]
  by_cases he : s = ⟨#[]⟩
  · simp [he]
  · congr 1
    rw [decide_eq_decide]
    exact ⟨fun h => takeB_full s h he, fun h => by rw [h]⟩
theorem mayB_int (s : ByteArray) : mayB s = (!decide (s = ⟨#[]⟩) && decide ((s.size : Int) ≤ 32) && decide (((takeB s).size : Int) = (s.size : Int))) := by
  rw [mayB_eq]
  congr 1
  · congr 1
    rw [decide_eq_decide]
    omega
  · rw [decide_eq_decide]
    omega
theorem mayB_int' (s : ByteArray) : mayB s = (!decide (s = ⟨#[]⟩) && decide ((s.size : Int) ≤ 32) && decide (takeB s = s)) := by
  rw [mayB_eq']
  congr 2
  rw [decide_eq_decide]
  omega
end Go.Bonsai
