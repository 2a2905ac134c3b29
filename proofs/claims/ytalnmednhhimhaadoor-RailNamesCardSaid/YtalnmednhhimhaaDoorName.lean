/-
  Names: what the walks of name.May and of its double come to.
-/
import Derived.Test.YtalnmednhhimhaaDoorClone
import Derived.Test.YtalnmednhhimhaaDoorPureA
set_option linter.all false
namespace Go.Proofs.YtalnmednhhimhaaDoor
open Go Go.Sl Go.RowKit Go.Bonsai
set_option linter.unusedVariables false

theorem digit_0 (b : Int) (w : World) : Calls Tryd.prog 83 #[.int .u8 b] w (RetV w (.bool (digitB b))) := by
  refine TC.calls (l := [.int .u8 b]) Tryd.func83 rfl Tryd.ntmps83 rfl (St.start w) ?_
  repeat' (first | (refine W1 ?_) | (refine W2 (fun hc => ?_) (fun hc => ?_)) | (intro _))
  all_goals refine TX.ret_tmp rfl rfl (fun w' hw => RetV.eq hw ?_)
  all_goals simp [digitB, hc]

theorem letter_0 (b : Int) (w : World) : Calls Tryd.prog 82 #[.int .u8 b] w (RetV w (.bool (letterB b))) := by
  refine TC.calls (l := [.int .u8 b]) Tryd.func82 rfl Tryd.ntmps82 rfl (St.start w) ?_
  repeat' (first | (refine W1 ?_) | (refine W2 (fun hc => ?_) (fun hc => ?_)) | (intro _))
  all_goals refine TX.ret_tmp rfl rfl (fun w' hw => RetV.eq hw ?_)
  all_goals simp [letterB, *]

theorem take_0 (s : ByteArray) (w : World) (hlim : s.size ≤ 281474976710656) : Calls Tryd.prog 74 #[.string s] w (RetV w (.string (takeB s))) := by
  by_cases he : s = ⟨#[]⟩
  · have hc1 : decide (s = ⟨#[]⟩) = true := by simp [he]
    refine TC.calls (l := [.string s]) Tryd.func74 rfl Tryd.ntmps74 rfl (St.start w) ?_
    repeat' (first | (refine W1 ?_) | (refine W2 (fun hc => ?_) (fun hc => ?_)) | (intro _))
    refine TX.ret_tmp rfl rfl (fun w' hw => RetV.eq hw ?_)
    subst he
    rfl
  · have hc1 : decide (s = ⟨#[]⟩) = false := by simp [he]
    have hne : s.data.toList ≠ [] := fun h => he (ByteArray.ext (Array.ext' h))
    obtain ⟨b, l, hl⟩ := List.exists_cons_of_ne_nil hne
    have hb : s.data[0]? = some b := by rw [← Array.getElem?_toList, hl]; rfl
    have hsz : s.data.toList.length = s.size := Array.length_toList
    have hn := runN_le s.data.toList
    cases hh : letterB b.toNat with
    | false =>
      have hc2 : (!letterB b.toNat) = true := by rw [hh]; rfl
      refine TC.calls (l := [.string s]) Tryd.func74 rfl Tryd.ntmps74 rfl (St.start w) ?_
      repeat' (first | (refine T.callV rfl rfl (fun w hw => letter_0 _ w) ?_) | (refine W1 ?_) | (refine W2 (fun hc => ?_) (fun hc => ?_)) | (intro _))
      refine TX.ret_tmp rfl rfl (fun w' hw => RetV.eq hw ?_)
      unfold takeB
      rw [hl]
      simp [headB, hh]
    | true =>
      have hc2 : (!letterB b.toNat) = false := by rw [hh]; rfl
      refine TC.calls (l := [.string s]) Tryd.func74 rfl Tryd.ntmps74 rfl (St.start w) ?_
      repeat' (first | (refine T.callV rfl rfl (fun w hw => letter_0 _ w) ?_) | (refine W1 ?_) | (refine W2 (fun hc => ?_) (fun hc => ?_)) | (intro _))
      have hone : 1 ≤ s.size := by rw [← hsz, hl]; simp
      refine TC.loop (ι := Nat) (fun k => [(0, .string s), (3, .int .i64 k)]) (fun _ => St w []) (fun k => k ≤ s.size ∧ ∀ j c, j < k → s.data.toList[j]? = some c → goodB c = true) (fun k => s.size - k) ?_ ?_
      · refine TX.enter 1 ⟨hone, ?_⟩ ⟨rfl, rfl, trivial⟩ (fun _ h => h)
        intro j c hj hjc
        have : j = 0 := by omega
        subst this
        rw [hl] at hjc
        simp at hjc
        subst hjc
        simp [goodB, hh]
      · rintro k ⟨hk, hg⟩
        by_cases hlt : k < s.size
        · have hck : decide ((k : Int) < (s.size : Int)) = true := by simp [hlt]
          obtain ⟨c, hkc⟩ : ∃ c, s.data[k]? = some c := ⟨_, Array.getElem?_eq_getElem hlt⟩
          have hkc' : s.data.toList[k]? = some c := by simpa using hkc
          repeat' (first | (refine T.callV rfl rfl (fun w hw => letter_0 _ w) ?_) | (refine T.callV rfl rfl (fun w hw => digit_0 _ w) ?_) | (refine T.callV rfl rfl (fun w hw => clone_any _ w (by rw [ByteArray.size_extract]; omega)) ?_) | (refine W1 ?_) | (refine W2 (fun hc => ?_) (fun hc => ?_)) | (intro _))
          · refine TX.round (k + 1) ⟨hlt, fun j d hj hjd => ?_⟩ (by omega) ⟨rfl, rfl, trivial⟩ (fun _ h => h)
            by_cases hjk : j = k
            · subst hjk
              rw [hkc'] at hjd
              injection hjd with hjd
              subst hjd
              simp [goodB, hc]
            · exact hg j d (by omega) hjd
          · refine TX.ret_tmp rfl rfl (fun w' hw => RetV.eq hw ?_)
            have hkr := runN_spec s.data.toList k (by omega) hg (fun d hd => by rw [hkc'] at hd; injection hd with hd; subst hd; unfold goodB; simp [*])
            unfold takeB
            rw [hl]
            rw [← hl, ← hkr]
            simp [headB, hl, hh]
          · refine TX.round (k + 1) ⟨hlt, fun j d hj hjd => ?_⟩ (by omega) ⟨rfl, rfl, trivial⟩ (fun _ h => h)
            by_cases hjk : j = k
            · subst hjk
              rw [hkc'] at hjd
              injection hjd with hjd
              subst hjd
              simp [goodB, hc]
            · exact hg j d (by omega) hjd
        · have hck : decide ((k : Int) < (s.size : Int)) = false := by simp; omega
          repeat' (first | (refine T.callV rfl rfl (fun w hw => clone_any _ w (by rw [ByteArray.size_extract]; omega)) ?_) | (refine W1 ?_) | (refine W2 (fun hc => ?_) (fun hc => ?_)) | (intro _))
          refine TX.ret_tmp rfl rfl (fun w' hw => RetV.eq hw ?_)
          have hkr := runN_spec s.data.toList k (by omega) hg (fun d hd => by have := (List.getElem?_eq_some_iff.1 hd).1; omega)
          unfold takeB
          rw [← hkr]
          simp [headB, hl, hh]

theorem may_0 (s : ByteArray) (w : World) : Calls Tryd.prog 62 #[.string s] w (RetV w (.bool (mayB s))) := by
  refine TC.calls (l := [.string s]) Tryd.func62 rfl Tryd.ntmps62 rfl (St.start w) ?_
  repeat' (first | (refine T.callV rfl rfl (fun w hw => take_0 _ w (by simp at hc; omega)) ?_) | (refine W1 ?_) | (refine W2 (fun hc => ?_) (fun hc => ?_)) | (intro _))
  all_goals refine TX.ret_tmp rfl rfl (fun w' hw => RetV.eq hw ?_)
  all_goals rw [mayB_int]
  all_goals simp [*]
end Go.Proofs.YtalnmednhhimhaaDoor
