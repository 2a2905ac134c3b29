/-
  slices.Reverse, slices.Equal over ints.
-/
import Derived.Test.YtalnmednhhimhaaDoorFacts
import Derived.Test.YtalnmednhhimhaaDoorRep
set_option linter.all false
namespace Go.Proofs.YtalnmednhhimhaaDoor
open Go Go.Sl Go.RowKit Go.Bonsai
set_option linter.unusedVariables false
set_option linter.unusedSimpArgs false

/-- the first k and the last k turned about -/
def revK (xs : List Int) (k : Nat) (ys : List Int) : Prop := ys.length = xs.length ∧ ∀ i, i < xs.length → ys[i]? = if i < k ∨ xs.length ≤ i + k then xs[xs.length - 1 - i]? else xs[i]?

theorem revK_zero (xs : List Int) : revK xs 0 xs := ⟨rfl, fun i hi => by rw [if_neg (by omega)]⟩
theorem revK_done {xs ys : List Int} {k : Nat} (h : revK xs k ys) (hk : xs.length ≤ 2 * k + 1) : ys = xs.reverse := by
  apply List.ext_getElem?
  intro i
  by_cases hi : i < xs.length
  · rw [h.2 i hi, List.getElem?_reverse hi]
    by_cases hc : i < k ∨ xs.length ≤ i + k
    · rw [if_pos hc]
    · rw [if_neg hc]
      congr 1
      omega
  · rw [List.getElem?_eq_none (by rw [h.1]; omega), List.getElem?_eq_none (by simp; omega)]
theorem revK_step {xs ys : List Int} {k : Nat} {x y : Int} (h : revK xs k ys) (hk : k < xs.length - 1 - k) (hx : ys[k]? = some x) (hy : ys[xs.length - 1 - k]? = some y) :
    revK xs (k + 1) ((ys.set k y).set (xs.length - 1 - k) x) := by
  have h1 := h.2 k (by omega)
  have h2 := h.2 (xs.length - 1 - k) (by omega)
  rw [if_neg (by omega), hx] at h1
  rw [if_neg (by omega), hy] at h2
  refine ⟨by simp [h.1], fun i hi => ?_⟩
  rw [List.getElem?_set, List.getElem?_set]
  by_cases e1 : xs.length - 1 - k = i
  · subst e1
    rw [if_pos rfl, if_pos (by simp [h.1]; omega), if_pos (by omega), h1]
    congr 1
    omega
  · rw [if_neg e1]
    by_cases e2 : k = i
    · subst e2
      rw [if_pos rfl, if_pos (by rw [h.1]; omega), if_pos (by omega), h2]
    · rw [if_neg e2, h.2 i hi]
      by_cases hc : i < k ∨ xs.length ≤ i + k
      · rw [if_pos hc, if_pos (by omega)]
      · rw [if_neg hc, if_neg (by omega)]

theorem reverse_any {w0 : World} {L0 : List HP} (A : Option Addr) (c : Nat) (xs : List Int) (w : World) (hl : xs.length ≤ bigL) (hw : St w0 (own 3 1 A xs.length c (irows xs) :: L0) w) :
    Calls Tryd.prog 75 #[.slice A xs.length c] w (fun e w' => ∃ x : Unit, e = .returned (.tuple #[]) ∧ St w0 (own 3 1 A xs.length c (irows xs.reverse) :: L0) w') := by
  unfold bigL at hl
  refine TC.calls (l := [.slice A xs.length c]) (M := St w0 (own 3 1 A xs.length c (irows xs) :: L0)) Tryd.func75 rfl Tryd.ntmps75 rfl hw ?_
  have hs1 : I64 ((xs.length : Int) - 1) := by unfold I64; omega
  repeat' (first | (apply T.ev_; exact rfl; apply Ev.sub; exact rfl; exact rfl; assumption) | (refine W1 ?_) | (refine W2 (fun hc => ?_) (fun hc => ?_)) | (intro _))
  refine TC.loop (ι := Nat × List Int) (fun k => [(0, .slice A xs.length c), (2, .int .i64 k.1), (3, .int .i64 ((xs.length : Int) - 1 - k.1))]) (fun k => St w0 (own 3 1 A xs.length c (irows k.2) :: L0)) (fun k => revK xs k.1 k.2 ∧ k.1 ≤ xs.length) (fun k => xs.length - k.1) ?_ ?_
  · exact TX.enter (0, xs) ⟨revK_zero xs, by simp⟩ ⟨rfl, rfl, by simp [lk], trivial⟩ (fun _ h => h)
  · rintro ⟨k, ys⟩ ⟨hr, hk⟩
    simp only at hr hk ⊢
    by_cases hlt : k < xs.length - 1 - k
    · have hj : (xs.length : Int) - 1 - k = ((xs.length - 1 - k : Nat) : Int) := by omega
      rw [hj]
      have hc1 : decide ((k : Int) < ((xs.length - 1 - k : Nat) : Int)) = true := by simp; omega
      obtain ⟨x, hx⟩ : ∃ x, ys[k]? = some x := ⟨_, List.getElem?_eq_getElem (by rw [hr.1]; omega)⟩
      obtain ⟨y, hy⟩ : ∃ y, ys[xs.length - 1 - k]? = some y := ⟨_, List.getElem?_eq_getElem (by rw [hr.1]; omega)⟩
      have hA : A = some (A.getD default) := (St.own_arr hw At.here).some_ (by omega)
      repeat' (first | (refine W1 ?_) | (refine W2 (fun hc => ?_) (fun hc => ?_)) | (intro _))
      apply TL.loudN
      exact rfl
      refine Ac.storeA (i := k) (o := 0) (r := [.int .i64 x]) rfl rfl rfl rfl rfl rfl UpdA (by omega) (irows_get hx) (by simp)
      intro _
      have hy' : (ys.set k y)[xs.length - 1 - k]? = some y := by rw [List.getElem?_set_ne (by omega)]; exact hy
      have e1 : (irows ys).set k (splice [.int .i64 x] 0 [.int .i64 y]) = irows (ys.set k y) := (irows_set ys k y).symm
      rw [e1]
      repeat' (first | (refine W1 ?_) | (refine W2 (fun hc => ?_) (fun hc => ?_)) | (intro _))
      apply TL.loudN
      exact rfl
      refine Ac.storeA (i := xs.length - 1 - k) (o := 0) (r := [.int .i64 y]) rfl rfl rfl rfl rfl rfl UpdA (by omega) (irows_get hy') (by simp)
      intro _
      have e2 : (irows (ys.set k y)).set (xs.length - 1 - k) (splice [.int .i64 y] 0 [.int .i64 x]) = irows ((ys.set k y).set (xs.length - 1 - k) x) := (irows_set _ _ x).symm
      rw [e2]
      repeat' (first | (refine W1 ?_) | (refine W2 (fun hc => ?_) (fun hc => ?_)) | (intro _))
      refine TX.round (k + 1, _) ⟨revK_step hr hlt hx hy, by simp; omega⟩ (by simp; omega) ⟨rfl, rfl, ?_, trivial⟩ (fun _ h => h)
      exact congrArg (fun z => some (Value.int .i64 z)) (by omega)
    · have hc1 : decide ((k : Int) < (xs.length : Int) - 1 - k) = false := by simp; omega
      repeat' (first | (refine W1 ?_) | (refine W2 (fun hc => ?_) (fun hc => ?_)) | (intro _))
      refine TX.end0 rfl (fun w' hw' => ⟨(), rfl, ?_⟩)
      rw [revK_done hr (by omega)] at hw'
      exact hw'
end Go.Proofs.YtalnmednhhimhaaDoor
