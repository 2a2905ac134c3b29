/-
  slices.Reverse, slices.Equal over ints.
-/
import Derived.Test.YtlhkkngpppcfoaaDoorFacts
import Derived.Test.YtlhkkngpppcfoaaDoorRep
set_option linter.all false
namespace Go.Proofs.YtlhkkngpppcfoaaDoor
open Go Go.Sl Go.RowKit Go.Bonsai
set_option linter.unusedVariables false
set_option linter.unusedSimpArgs false

theorem equal_any (A B : Option Addr) (c d : Nat) (xs ys : List Int) (w : World) (hx : Arr 1 (Old w) w A xs.length (irows xs)) (hy : Arr 1 (Old w) w B ys.length (irows ys)) (hlx : xs.length ≤ bigL) (hly : ys.length ≤ bigL) :
    Calls Tryd.prog 104 #[.slice A xs.length c, .slice B ys.length d] w (RetV w (.bool (decide (xs = ys)))) := by
  unfold bigL at hlx hly
  by_cases hlen : xs.length = ys.length
  · have hc1 : (!decide ((xs.length : Int) = (ys.length : Int))) = false := by simp [hlen]
    refine TC.calls (l := [.slice A xs.length c, .slice B ys.length d]) Tryd.func104 rfl Tryd.ntmps104 rfl (St.start w) ?_
    repeat' (first | (refine W1 ?_) | (refine W2 (fun hc => ?_) (fun hc => ?_)) | (intro _))
    refine TC.loop (ι := Nat) (fun k => [(0, .slice A xs.length c), (1, .slice B ys.length d), (12, .int .i64 xs.length), (13, .int .i64 k)]) (fun _ => St w []) (fun k => k ≤ xs.length ∧ xs.take k = ys.take k) (fun k => xs.length - k) ?_ ?_
    · exact TX.enter 0 ⟨by omega, rfl⟩ ⟨rfl, rfl, rfl, rfl, trivial⟩ (fun _ h => h)
    · rintro k ⟨hk, he⟩
      by_cases hlt : k < xs.length
      · have hck : decide ((k : Int) < (xs.length : Int)) = true := by simp [hlt]
        have hxk : xs[k]? = some xs[k] := List.getElem?_eq_getElem hlt
        have hyk : ys[k]? = some ys[k] := List.getElem?_eq_getElem (by omega)
        have hA := hx.some_ (by omega)
        have hB := hy.some_ (by omega)
        repeat' (first | (refine W1 ?_) | (refine W2 (fun hc => ?_) (fun hc => ?_)) | (intro _))
        · refine TX.ret_tmp rfl rfl (fun w' hw => RetV.eq hw ?_)
          have hne : xs ≠ ys := by
            rintro rfl
            simp at hc
          simp [hne]
        · refine TX.round (k + 1) ⟨by omega, ?_⟩ (by omega) ⟨rfl, rfl, rfl, rfl, trivial⟩ (fun _ h => h)
          simp at hc
          rw [List.take_succ_eq_append_getElem hlt, List.take_succ_eq_append_getElem (by omega), he, hc]
      · have hck : decide ((k : Int) < (xs.length : Int)) = false := by simp; omega
        repeat' (first | (refine W1 ?_) | (refine W2 (fun hc => ?_) (fun hc => ?_)) | (intro _))
        refine TX.ret_tmp rfl rfl (fun w' hw => RetV.eq hw ?_)
        have : xs = ys := by
          rw [List.take_of_length_le (by omega), List.take_of_length_le (by omega)] at he
          exact he
        simp [this]
  · have hc1 : (!decide ((xs.length : Int) = (ys.length : Int))) = true := by simp; omega
    refine TC.calls (l := [.slice A xs.length c, .slice B ys.length d]) Tryd.func104 rfl Tryd.ntmps104 rfl (St.start w) ?_
    repeat' (first | (refine W1 ?_) | (refine W2 (fun hc => ?_) (fun hc => ?_)) | (intro _))
    refine TX.ret_tmp rfl rfl (fun w' hw => RetV.eq hw ?_)
    have : xs ≠ ys := fun e => hlen (by rw [e])
    simp [this]

/-- the first k and the last k turned about -/
def revK (xs : List Int) (k : Nat) (ys : List Int) : Prop := ys.length = xs.length ∧ ∀ i, i < xs.length → ys[i]? = if i < k ∨ xs.length ≤ i + k then xs[xs.length - 1 - i]? else xs[i]?

theorem revK_zero (xs : List Int) : revK xs 0 xs := ⟨rfl, fun i hi => by rw [if_neg (by omega)]⟩
theorem revK_done {xs ys : List Int} {k : Nat} (h : revK xs k ys) (hk : xs.length ≤ 2 * k + 1) : ys = xs.reverse := by
  apply List.ext_getElem?
  intro i
  by_cases hi : i < xs.length
  · rw [h.2 i hi, List.getElem?_reverse hi]
    by_cases hc : i < k ∨ xs.length ≤ i + k
    · rw [if_pos hc]
    · rw [if_neg hc]
      congr 1
      omega
  · rw [List.getElem?_eq_none (by rw [h.1]; omega), List.getElem?_eq_none (by simp; omega)]
theorem revK_step {xs ys : List Int} {k : Nat} {x y : Int} (h : revK xs k ys) (hk : k < xs.length - 1 - k) (hx : ys[k]? = some x) (hy : ys[xs.length - 1 - k]? = some y) :
    revK xs (k + 1) ((ys.set k y).set (xs.length - 1 - k) x) := by
  have h1 := h.2 k (by omega)
  have h2 := h.2 (xs.length - 1 - k) (by omega)
  rw [if_neg (by omega), hx] at h1
  rw [if_neg (by omega), hy] at h2
  refine ⟨by simp [h.1], fun i hi => ?_⟩
  rw [List.getElem?_set, List.getElem?_set]
  by_cases e1 : xs.length - 1 - k = i
  · subst e1
    rw [if_pos rfl, if_pos (by simp [h.1]; omega), if_pos (by omega), h1]
    congr 1
    omega
  · rw [if_neg e1]
    by_cases e2 : k = i
    · subst e2
      rw [if_pos rfl, if_pos (by rw [h.1]; omega), if_pos (by omega), h2]
    · rw [if_neg e2, h.2 i hi]
      by_cases hc : i < k ∨ xs.length ≤ i + k
      · rw [if_pos hc, if_pos (by omega)]
      · rw [if_neg hc, if_neg (by omega)]

theorem reverse_any {w0 : World} {L0 : List HP} (A : Option Addr) (c : Nat) (xs : List Int) (w : World) (hl : xs.length ≤ bigL) (hw : St w0 (own 3 1 A xs.length c (irows xs) :: L0) w) :
    Calls Tryd.prog 109 #[.slice A xs.length c] w (fun e w' => ∃ x : Unit, e = .returned (.tuple #[]) ∧ St w0 (own 3 1 A xs.length c (irows xs.reverse) :: L0) w') := by
  unfold bigL at hl
  refine TC.calls (l := [.slice A xs.length c]) (M := St w0 (own 3 1 A xs.length c (irows xs) :: L0)) Tryd.func109 rfl Tryd.ntmps109 rfl hw ?_
  have hs1 : I64 ((xs.length : Int) - 1) := by unfold I64; omega
  repeat' (first | (apply T.ev_; exact rfl; apply Ev.sub; exact rfl; exact rfl; assumption) | (refine W1 ?_) | (refine W2 (fun hc => ?_) (fun hc => ?_)) | (intro _))
  refine TC.loop (ι := Nat × List Int) (fun k => [(0, .slice A xs.length c), (2, .int .i64 k.1), (3, .int .i64 ((xs.length : Int) - 1 - k.1))]) (fun k => St w0 (own 3 1 A xs.length c (irows k.2) :: L0)) (fun k => revK xs k.1 k.2 ∧ k.1 ≤ xs.length) (fun k => xs.length - k.1) ?_ ?_
  · exact TX.enter (0, xs) ⟨revK_zero xs, by simp⟩ ⟨rfl, rfl, by simp [lk], trivial⟩ (fun _ h => h)
  · rintro ⟨k, ys⟩ ⟨hr, hk⟩
    simp only at hr hk ⊢
    by_cases hlt : k < xs.length - 1 - k
    · have hj : (xs.length : Int) - 1 - k = ((xs.length - 1 - k : Nat) : Int) := by omega
      rw [hj]
      have hc1 : decide ((k : Int) < ((xs.length - 1 - k : Nat) : Int)) = true := by simp; omega
      obtain ⟨x, hx⟩ : ∃ x, ys[k]? = some x := ⟨_, List.getElem?_eq_getElem (by rw [hr.1]; omega)⟩
      obtain ⟨y, hy⟩ : ∃ y, ys[xs.length - 1 - k]? = some y := ⟨_, List.getElem?_eq_getElem (by rw [hr.1]; omega)⟩
      have hA : A = some (A.getD default) := (St.own_arr hw At.here).some_ (by omega)
      repeat' (first | (refine W1 ?_) | (refine W2 (fun hc => ?_) (fun hc => ?_)) | (intro _))
      apply TL.loudN
      exact rfl
      refine Ac.storeA (i := k) (o := 0) (r := [.int .i64 x]) rfl rfl rfl rfl rfl rfl UpdA (by omega) (irows_get hx) (by simp)
      intro _
      have hy' : (ys.set k y)[xs.length - 1 - k]? = some y := by rw [List.getElem?_set_ne (by omega)]; exact hy
      have e1 : (irows ys).set k (splice [.int .i64 x] 0 [.int .i64 y]) = irows (ys.set k y) := (irows_set ys k y).symm
      rw [e1]
      repeat' (first | (refine W1 ?_) | (refine W2 (fun hc => ?_) (fun hc => ?_)) | (intro _))
      apply TL.loudN
      exact rfl
      refine Ac.storeA (i := xs.length - 1 - k) (o := 0) (r := [.int .i64 y]) rfl rfl rfl rfl rfl rfl UpdA (by omega) (irows_get hy') (by simp)
      intro _
      have e2 : (irows (ys.set k y)).set (xs.length - 1 - k) (splice [.int .i64 y] 0 [.int .i64 x]) = irows ((ys.set k y).set (xs.length - 1 - k) x) := (irows_set _ _ x).symm
      rw [e2]
      repeat' (first | (refine W1 ?_) | (refine W2 (fun hc => ?_) (fun hc => ?_)) | (intro _))
      refine TX.round (k + 1, _) ⟨revK_step hr hlt hx hy, by simp; omega⟩ (by simp; omega) ⟨rfl, rfl, ?_, trivial⟩ (fun _ h => h)
      exact congrArg (fun z => some (Value.int .i64 z)) (by omega)
    · have hc1 : decide ((k : Int) < (xs.length : Int) - 1 - k) = false := by simp; omega
      repeat' (first | (refine W1 ?_) | (refine W2 (fun hc => ?_) (fun hc => ?_)) | (intro _))
      refine TX.end0 rfl (fun w' hw' => ⟨(), rfl, ?_⟩)
      rw [revK_done hr (by omega)] at hw'
      exact hw'
end Go.Proofs.YtlhkkngpppcfoaaDoor
