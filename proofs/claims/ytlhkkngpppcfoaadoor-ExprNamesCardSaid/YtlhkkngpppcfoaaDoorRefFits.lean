/-
  bonsairef04.Fits, walked.
-/
import Derived.Test.YtlhkkngpppcfoaaDoorFits
set_option linter.all false
namespace Go.Proofs.YtlhkkngpppcfoaaDoor
open Go Go.Sl Go.RowKit Go.Bonsai
set_option linter.unusedVariables false
set_option linter.unusedSimpArgs false

theorem bsize_pos (x : ByteArray) : (1 ≤ (x.size : Int)) ↔ ¬ x = ⟨#[]⟩ := by
  constructor
  · intro h e
    rw [e] at h
    exact absurd h (by decide)
  · intro h
    have : x.size ≠ 0 := fun h0 => h (ByteArray.ext (Array.eq_empty_of_size_eq_zero h0))
    omega
theorem bsize_zero (x : ByteArray) : ((x.size : Int) < 1) ↔ x = ⟨#[]⟩ := by
  have := bsize_pos x
  constructor
  · intro h
    by_cases he : x = ⟨#[]⟩
    · exact he
    · have := this.2 he; omega
  · intro h
    subst h
    decide
theorem rfits_k0 (set : Bts) (text : ByteArray) (mn mx : Int) (kids : List Int) (kv : Value) (cnt : Int) (w : World) :
    Calls Tryd.prog 21 #[.agg (Nod.cells ⟨0, set, text, mn, mx, kids⟩ kv).toArray, .int .i64 cnt] w (RetV w (.bool (fits ⟨0, set, text, mn, mx, kids⟩ cnt))) := by
  refine TC.calls (l := [.agg #[.int .u8 0, .int .u64 set.a, .int .u64 set.b, .int .u64 set.c, .int .u64 set.d, .string text, .int .i64 mn, .int .i64 mx, kv], .int .i64 cnt]) Tryd.func21 rfl Tryd.ntmps21 rfl (St.start w) ?_
  repeat' (first | (apply T.ev_; exact rfl; apply Ev.bts_eql (a := set) (b := .zero); exact rfl; exact rfl) | (refine T.callV rfl rfl (fun w hw => may_1 _ w) ?_) | (refine W1 ?_) | (refine W2 (fun hc => ?_) (fun hc => ?_)) | (intro _))
  all_goals refine TX.ret_tmp rfl rfl (fun w' hw => RetV.eq hw ?_)
  all_goals simp_all [fits, bsize_pos, bsize_zero]
  all_goals first | (intros; omega) | skip
theorem rfits_k1 (set : Bts) (text : ByteArray) (mn mx : Int) (kids : List Int) (kv : Value) (cnt : Int) (w : World) :
    Calls Tryd.prog 21 #[.agg (Nod.cells ⟨1, set, text, mn, mx, kids⟩ kv).toArray, .int .i64 cnt] w (RetV w (.bool (fits ⟨1, set, text, mn, mx, kids⟩ cnt))) := by
  refine TC.calls (l := [.agg #[.int .u8 1, .int .u64 set.a, .int .u64 set.b, .int .u64 set.c, .int .u64 set.d, .string text, .int .i64 mn, .int .i64 mx, kv], .int .i64 cnt]) Tryd.func21 rfl Tryd.ntmps21 rfl (St.start w) ?_
  repeat' (first | (apply T.ev_; exact rfl; apply Ev.bts_eql (a := set) (b := .zero); exact rfl; exact rfl) | (refine T.callV rfl rfl (fun w hw => may_1 _ w) ?_) | (refine W1 ?_) | (refine W2 (fun hc => ?_) (fun hc => ?_)) | (intro _))
  all_goals refine TX.ret_tmp rfl rfl (fun w' hw => RetV.eq hw ?_)
  all_goals simp_all [fits, bsize_pos, bsize_zero]
  all_goals first | (intros; omega) | skip
theorem rfits_k2 (set : Bts) (text : ByteArray) (mn mx : Int) (kids : List Int) (kv : Value) (cnt : Int) (w : World) :
    Calls Tryd.prog 21 #[.agg (Nod.cells ⟨2, set, text, mn, mx, kids⟩ kv).toArray, .int .i64 cnt] w (RetV w (.bool (fits ⟨2, set, text, mn, mx, kids⟩ cnt))) := by
  refine TC.calls (l := [.agg #[.int .u8 2, .int .u64 set.a, .int .u64 set.b, .int .u64 set.c, .int .u64 set.d, .string text, .int .i64 mn, .int .i64 mx, kv], .int .i64 cnt]) Tryd.func21 rfl Tryd.ntmps21 rfl (St.start w) ?_
  repeat' (first | (apply T.ev_; exact rfl; apply Ev.bts_eql (a := set) (b := .zero); exact rfl; exact rfl) | (refine T.callV rfl rfl (fun w hw => may_1 _ w) ?_) | (refine W1 ?_) | (refine W2 (fun hc => ?_) (fun hc => ?_)) | (intro _))
  all_goals refine TX.ret_tmp rfl rfl (fun w' hw => RetV.eq hw ?_)
  all_goals simp_all [fits, bsize_pos, bsize_zero]
  all_goals first | (intros; omega) | skip
theorem rfits_k3 (set : Bts) (text : ByteArray) (mn mx : Int) (kids : List Int) (kv : Value) (cnt : Int) (w : World) :
    Calls Tryd.prog 21 #[.agg (Nod.cells ⟨3, set, text, mn, mx, kids⟩ kv).toArray, .int .i64 cnt] w (RetV w (.bool (fits ⟨3, set, text, mn, mx, kids⟩ cnt))) := by
  refine TC.calls (l := [.agg #[.int .u8 3, .int .u64 set.a, .int .u64 set.b, .int .u64 set.c, .int .u64 set.d, .string text, .int .i64 mn, .int .i64 mx, kv], .int .i64 cnt]) Tryd.func21 rfl Tryd.ntmps21 rfl (St.start w) ?_
  repeat' (first | (apply T.ev_; exact rfl; apply Ev.bts_eql (a := set) (b := .zero); exact rfl; exact rfl) | (refine T.callV rfl rfl (fun w hw => may_1 _ w) ?_) | (refine W1 ?_) | (refine W2 (fun hc => ?_) (fun hc => ?_)) | (intro _))
  all_goals refine TX.ret_tmp rfl rfl (fun w' hw => RetV.eq hw ?_)
  all_goals simp_all [fits, bsize_pos, bsize_zero]
  all_goals first | (intros; omega) | skip
theorem rfits_k4 (set : Bts) (text : ByteArray) (mn mx : Int) (kids : List Int) (kv : Value) (cnt : Int) (w : World) :
    Calls Tryd.prog 21 #[.agg (Nod.cells ⟨4, set, text, mn, mx, kids⟩ kv).toArray, .int .i64 cnt] w (RetV w (.bool (fits ⟨4, set, text, mn, mx, kids⟩ cnt))) := by
  refine TC.calls (l := [.agg #[.int .u8 4, .int .u64 set.a, .int .u64 set.b, .int .u64 set.c, .int .u64 set.d, .string text, .int .i64 mn, .int .i64 mx, kv], .int .i64 cnt]) Tryd.func21 rfl Tryd.ntmps21 rfl (St.start w) ?_
  repeat' (first | (apply T.ev_; exact rfl; apply Ev.bts_eql (a := set) (b := .zero); exact rfl; exact rfl) | (refine T.callV rfl rfl (fun w hw => may_1 _ w) ?_) | (refine W1 ?_) | (refine W2 (fun hc => ?_) (fun hc => ?_)) | (intro _))
  all_goals refine TX.ret_tmp rfl rfl (fun w' hw => RetV.eq hw ?_)
  all_goals simp_all [fits, bsize_pos, bsize_zero]
  all_goals first | (intros; omega) | skip
theorem rfits_k5 (set : Bts) (text : ByteArray) (mn mx : Int) (kids : List Int) (kv : Value) (cnt : Int) (w : World) :
    Calls Tryd.prog 21 #[.agg (Nod.cells ⟨5, set, text, mn, mx, kids⟩ kv).toArray, .int .i64 cnt] w (RetV w (.bool (fits ⟨5, set, text, mn, mx, kids⟩ cnt))) := by
  refine TC.calls (l := [.agg #[.int .u8 5, .int .u64 set.a, .int .u64 set.b, .int .u64 set.c, .int .u64 set.d, .string text, .int .i64 mn, .int .i64 mx, kv], .int .i64 cnt]) Tryd.func21 rfl Tryd.ntmps21 rfl (St.start w) ?_
  repeat' (first | (apply T.ev_; exact rfl; apply Ev.bts_eql (a := set) (b := .zero); exact rfl; exact rfl) | (refine T.callV rfl rfl (fun w hw => may_1 _ w) ?_) | (refine W1 ?_) | (refine W2 (fun hc => ?_) (fun hc => ?_)) | (intro _))
  all_goals refine TX.ret_tmp rfl rfl (fun w' hw => RetV.eq hw ?_)
  all_goals simp_all [fits, bsize_pos, bsize_zero]
  all_goals first | (intros; omega) | skip
theorem rfits_k6 (set : Bts) (text : ByteArray) (mn mx : Int) (kids : List Int) (kv : Value) (cnt : Int) (w : World) :
    Calls Tryd.prog 21 #[.agg (Nod.cells ⟨6, set, text, mn, mx, kids⟩ kv).toArray, .int .i64 cnt] w (RetV w (.bool (fits ⟨6, set, text, mn, mx, kids⟩ cnt))) := by
  refine TC.calls (l := [.agg #[.int .u8 6, .int .u64 set.a, .int .u64 set.b, .int .u64 set.c, .int .u64 set.d, .string text, .int .i64 mn, .int .i64 mx, kv], .int .i64 cnt]) Tryd.func21 rfl Tryd.ntmps21 rfl (St.start w) ?_
  repeat' (first | (apply T.ev_; exact rfl; apply Ev.bts_eql (a := set) (b := .zero); exact rfl; exact rfl) | (refine T.callV rfl rfl (fun w hw => may_1 _ w) ?_) | (refine W1 ?_) | (refine W2 (fun hc => ?_) (fun hc => ?_)) | (intro _))
  all_goals refine TX.ret_tmp rfl rfl (fun w' hw => RetV.eq hw ?_)
  all_goals simp_all [fits, bsize_pos, bsize_zero]
  all_goals first | (intros; omega) | skip
theorem rfits_k7 (set : Bts) (text : ByteArray) (mn mx : Int) (kids : List Int) (kv : Value) (cnt : Int) (w : World) :
    Calls Tryd.prog 21 #[.agg (Nod.cells ⟨7, set, text, mn, mx, kids⟩ kv).toArray, .int .i64 cnt] w (RetV w (.bool (fits ⟨7, set, text, mn, mx, kids⟩ cnt))) := by
  refine TC.calls (l := [.agg #[.int .u8 7, .int .u64 set.a, .int .u64 set.b, .int .u64 set.c, .int .u64 set.d, .string text, .int .i64 mn, .int .i64 mx, kv], .int .i64 cnt]) Tryd.func21 rfl Tryd.ntmps21 rfl (St.start w) ?_
  repeat' (first | (apply T.ev_; exact rfl; apply Ev.bts_eql (a := set) (b := .zero); exact rfl; exact rfl) | (refine T.callV rfl rfl (fun w hw => may_1 _ w) ?_) | (refine W1 ?_) | (refine W2 (fun hc => ?_) (fun hc => ?_)) | (intro _))
  all_goals refine TX.ret_tmp rfl rfl (fun w' hw => RetV.eq hw ?_)
  all_goals simp_all [fits, bsize_pos, bsize_zero]
  all_goals first | (intros; omega) | skip
theorem rfits_k8 (set : Bts) (text : ByteArray) (mn mx : Int) (kids : List Int) (kv : Value) (cnt : Int) (w : World) :
    Calls Tryd.prog 21 #[.agg (Nod.cells ⟨8, set, text, mn, mx, kids⟩ kv).toArray, .int .i64 cnt] w (RetV w (.bool (fits ⟨8, set, text, mn, mx, kids⟩ cnt))) := by
  refine TC.calls (l := [.agg #[.int .u8 8, .int .u64 set.a, .int .u64 set.b, .int .u64 set.c, .int .u64 set.d, .string text, .int .i64 mn, .int .i64 mx, kv], .int .i64 cnt]) Tryd.func21 rfl Tryd.ntmps21 rfl (St.start w) ?_
  repeat' (first | (apply T.ev_; exact rfl; apply Ev.bts_eql (a := set) (b := .zero); exact rfl; exact rfl) | (refine T.callV rfl rfl (fun w hw => may_1 _ w) ?_) | (refine W1 ?_) | (refine W2 (fun hc => ?_) (fun hc => ?_)) | (intro _))
  all_goals refine TX.ret_tmp rfl rfl (fun w' hw => RetV.eq hw ?_)
  all_goals simp_all [fits, bsize_pos, bsize_zero]
  all_goals first | (intros; omega) | skip
theorem rfits_k9 (set : Bts) (text : ByteArray) (mn mx : Int) (kids : List Int) (kv : Value) (cnt : Int) (w : World) :
    Calls Tryd.prog 21 #[.agg (Nod.cells ⟨9, set, text, mn, mx, kids⟩ kv).toArray, .int .i64 cnt] w (RetV w (.bool (fits ⟨9, set, text, mn, mx, kids⟩ cnt))) := by
  refine TC.calls (l := [.agg #[.int .u8 9, .int .u64 set.a, .int .u64 set.b, .int .u64 set.c, .int .u64 set.d, .string text, .int .i64 mn, .int .i64 mx, kv], .int .i64 cnt]) Tryd.func21 rfl Tryd.ntmps21 rfl (St.start w) ?_
  repeat' (first | (apply T.ev_; exact rfl; apply Ev.bts_eql (a := set) (b := .zero); exact rfl; exact rfl) | (refine T.callV rfl rfl (fun w hw => may_1 _ w) ?_) | (refine W1 ?_) | (refine W2 (fun hc => ?_) (fun hc => ?_)) | (intro _))
  all_goals refine TX.ret_tmp rfl rfl (fun w' hw => RetV.eq hw ?_)
  all_goals simp_all [fits, bsize_pos, bsize_zero]
  all_goals first | (intros; omega) | skip

theorem rfits_big (n : Nod) (kv : Value) (cnt : Int) (w : World) (hk : 10 ≤ n.kind) :
    Calls Tryd.prog 21 #[.agg (n.cells kv).toArray, .int .i64 cnt] w (RetV w (.bool (fits n cnt))) := by
  have h : ∀ k : Int, k < 10 → ¬ n.kind = k := fun k hk e => by omega
  have h0 : decide (n.kind = 0) = false := by simp [h 0 (by decide)]
  have h1 : decide (n.kind = 1) = false := by simp [h 1 (by decide)]
  have h2 : decide (n.kind = 2) = false := by simp [h 2 (by decide)]
  have h3 : decide (n.kind = 3) = false := by simp [h 3 (by decide)]
  have h4 : decide (n.kind = 4) = false := by simp [h 4 (by decide)]
  have h5 : decide (n.kind = 5) = false := by simp [h 5 (by decide)]
  have h6 : decide (n.kind = 6) = false := by simp [h 6 (by decide)]
  have h7 : decide (n.kind = 7) = false := by simp [h 7 (by decide)]
  have h8 : decide (n.kind = 8) = false := by simp [h 8 (by decide)]
  have h9 : decide (n.kind = 9) = false := by simp [h 9 (by decide)]
  refine TC.calls (l := [.agg (n.cells kv).toArray, .int .i64 cnt]) Tryd.func21 rfl Tryd.ntmps21 rfl (St.start w) ?_
  repeat' (first | (apply T.ev_; exact rfl; apply Ev.bts_eql (a := n.set) (b := .zero); exact rfl; exact rfl) | (refine T.callV rfl rfl (fun w hw => may_1 _ w) ?_) | (refine W1 ?_) | (refine W2 (fun hc => ?_) (fun hc => ?_)) | (intro _))
  all_goals refine TX.ret_tmp rfl rfl (fun w' hw => RetV.eq hw ?_)
  all_goals simp [fits, h]

theorem rfits_any (n : Nod) (kv : Value) (cnt : Int) (w : World) (hn : n.wf) :
    Calls Tryd.prog 21 #[.agg (n.cells kv).toArray, .int .i64 cnt] w (RetV w (.bool (fits n cnt))) := by
  by_cases hb : 10 ≤ n.kind
  · exact rfits_big n kv cnt w hb
  · obtain ⟨kind, set, text, mn, mx, kids⟩ := n
    have h0 := hn.kind.1
    simp only at hb h0
    have hcases : kind = 0 ∨ kind = 1 ∨ kind = 2 ∨ kind = 3 ∨ kind = 4 ∨ kind = 5 ∨ kind = 6 ∨ kind = 7 ∨ kind = 8 ∨ kind = 9 := by omega
    rcases hcases with rfl | rfl | rfl | rfl | rfl | rfl | rfl | rfl | rfl | rfl
    · exact rfits_k0 set text mn mx kids kv cnt w
    · exact rfits_k1 set text mn mx kids kv cnt w
    · exact rfits_k2 set text mn mx kids kv cnt w
    · exact rfits_k3 set text mn mx kids kv cnt w
    · exact rfits_k4 set text mn mx kids kv cnt w
    · exact rfits_k5 set text mn mx kids kv cnt w
    · exact rfits_k6 set text mn mx kids kv cnt w
    · exact rfits_k7 set text mn mx kids kv cnt w
    · exact rfits_k8 set text mn mx kids kv cnt w
    · exact rfits_k9 set text mn mx kids kv cnt w

end Go.Proofs.YtlhkkngpppcfoaaDoor
