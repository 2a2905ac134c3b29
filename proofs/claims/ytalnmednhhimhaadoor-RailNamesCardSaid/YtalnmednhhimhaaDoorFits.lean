/-
  tree.Fits and its double.
-/
import Derived.Test.YtalnmednhhimhaaDoorBts
import Derived.Test.YtalnmednhhimhaaDoorName
set_option linter.all false
namespace Go.Proofs.YtalnmednhhimhaaDoor
open Go Go.Sl Go.RowKit Go.Bonsai
set_option linter.unusedVariables false
set_option linter.unusedSimpArgs false

theorem fits_k0 (set : Bts) (text : ByteArray) (mn mx : Int) (kids : List Int) (kv : Value) (cnt : Int) (w : World) (hT : Tab w) :
    Calls Tryd.prog 46 #[.agg (Nod.cells ⟨0, set, text, mn, mx, kids⟩ kv).toArray, .int .i64 cnt] w (RetV w (.bool (fits ⟨0, set, text, mn, mx, kids⟩ cnt))) := by
  refine TC.calls (l := [.agg #[.int .u8 0, .int .u64 set.a, .int .u64 set.b, .int .u64 set.c, .int .u64 set.d, .string text, .int .i64 mn, .int .i64 mx, kv], .int .i64 cnt]) Tryd.func46 rfl Tryd.ntmps46 rfl (St.start w) ?_
  repeat' (first | (apply T.ev_; exact rfl; apply Ev.bts_eql (a := set) (b := .zero); exact rfl; exact rfl) | (apply T.ev_; exact rfl; apply Ev.bts_eql (a := .zero) (b := .zero); exact rfl; exact rfl) | (refine T.callV rfl rfl (fun w hw => may_0 _ w) ?_) | (refine W1 ?_) | (refine W2 (fun hc => ?_) (fun hc => ?_)) | (intro _))
  all_goals refine TX.ret_tmp rfl rfl (fun w' hw => RetV.eq hw ?_)
  all_goals simp_all [fits]
  all_goals first | (intros; omega) | (obtain rfl : cnt = 0 := by omega
                                       simp_all)
theorem fits_k1 (set : Bts) (text : ByteArray) (mn mx : Int) (kids : List Int) (kv : Value) (cnt : Int) (w : World) (hT : Tab w) :
    Calls Tryd.prog 46 #[.agg (Nod.cells ⟨1, set, text, mn, mx, kids⟩ kv).toArray, .int .i64 cnt] w (RetV w (.bool (fits ⟨1, set, text, mn, mx, kids⟩ cnt))) := by
  refine TC.calls (l := [.agg #[.int .u8 1, .int .u64 set.a, .int .u64 set.b, .int .u64 set.c, .int .u64 set.d, .string text, .int .i64 mn, .int .i64 mx, kv], .int .i64 cnt]) Tryd.func46 rfl Tryd.ntmps46 rfl (St.start w) ?_
  repeat' (first | (apply T.ev_; exact rfl; apply Ev.bts_eql (a := set) (b := .zero); exact rfl; exact rfl) | (apply T.ev_; exact rfl; apply Ev.bts_eql (a := .zero) (b := .zero); exact rfl; exact rfl) | (refine T.callV rfl rfl (fun w hw => may_0 _ w) ?_) | (refine W1 ?_) | (refine W2 (fun hc => ?_) (fun hc => ?_)) | (intro _))
  all_goals refine TX.ret_tmp rfl rfl (fun w' hw => RetV.eq hw ?_)
  all_goals simp_all [fits]
  all_goals first | (intros; omega) | (obtain rfl : cnt = 0 := by omega
                                       simp_all)
theorem fits_k2 (set : Bts) (text : ByteArray) (mn mx : Int) (kids : List Int) (kv : Value) (cnt : Int) (w : World) (hT : Tab w) :
    Calls Tryd.prog 46 #[.agg (Nod.cells ⟨2, set, text, mn, mx, kids⟩ kv).toArray, .int .i64 cnt] w (RetV w (.bool (fits ⟨2, set, text, mn, mx, kids⟩ cnt))) := by
  refine TC.calls (l := [.agg #[.int .u8 2, .int .u64 set.a, .int .u64 set.b, .int .u64 set.c, .int .u64 set.d, .string text, .int .i64 mn, .int .i64 mx, kv], .int .i64 cnt]) Tryd.func46 rfl Tryd.ntmps46 rfl (St.start w) ?_
  repeat' (first | (apply T.ev_; exact rfl; apply Ev.bts_eql (a := set) (b := .zero); exact rfl; exact rfl) | (apply T.ev_; exact rfl; apply Ev.bts_eql (a := .zero) (b := .zero); exact rfl; exact rfl) | (refine T.callV rfl rfl (fun w hw => may_0 _ w) ?_) | (refine W1 ?_) | (refine W2 (fun hc => ?_) (fun hc => ?_)) | (intro _))
  all_goals refine TX.ret_tmp rfl rfl (fun w' hw => RetV.eq hw ?_)
  all_goals simp_all [fits]
  all_goals first | (intros; omega) | (obtain rfl : cnt = 0 := by omega
                                       simp_all)
theorem fits_k3 (set : Bts) (text : ByteArray) (mn mx : Int) (kids : List Int) (kv : Value) (cnt : Int) (w : World) (hT : Tab w) :
    Calls Tryd.prog 46 #[.agg (Nod.cells ⟨3, set, text, mn, mx, kids⟩ kv).toArray, .int .i64 cnt] w (RetV w (.bool (fits ⟨3, set, text, mn, mx, kids⟩ cnt))) := by
  refine TC.calls (l := [.agg #[.int .u8 3, .int .u64 set.a, .int .u64 set.b, .int .u64 set.c, .int .u64 set.d, .string text, .int .i64 mn, .int .i64 mx, kv], .int .i64 cnt]) Tryd.func46 rfl Tryd.ntmps46 rfl (St.start w) ?_
  repeat' (first | (apply T.ev_; exact rfl; apply Ev.bts_eql (a := set) (b := .zero); exact rfl; exact rfl) | (apply T.ev_; exact rfl; apply Ev.bts_eql (a := .zero) (b := .zero); exact rfl; exact rfl) | (refine T.callV rfl rfl (fun w hw => may_0 _ w) ?_) | (refine W1 ?_) | (refine W2 (fun hc => ?_) (fun hc => ?_)) | (intro _))
  all_goals refine TX.ret_tmp rfl rfl (fun w' hw => RetV.eq hw ?_)
  all_goals simp_all [fits]
  all_goals first | (intros; omega) | (obtain rfl : cnt = 0 := by omega
                                       simp_all)
theorem fits_k4 (set : Bts) (text : ByteArray) (mn mx : Int) (kids : List Int) (kv : Value) (cnt : Int) (w : World) (hT : Tab w) :
    Calls Tryd.prog 46 #[.agg (Nod.cells ⟨4, set, text, mn, mx, kids⟩ kv).toArray, .int .i64 cnt] w (RetV w (.bool (fits ⟨4, set, text, mn, mx, kids⟩ cnt))) := by
  refine TC.calls (l := [.agg #[.int .u8 4, .int .u64 set.a, .int .u64 set.b, .int .u64 set.c, .int .u64 set.d, .string text, .int .i64 mn, .int .i64 mx, kv], .int .i64 cnt]) Tryd.func46 rfl Tryd.ntmps46 rfl (St.start w) ?_
  repeat' (first | (apply T.ev_; exact rfl; apply Ev.bts_eql (a := set) (b := .zero); exact rfl; exact rfl) | (apply T.ev_; exact rfl; apply Ev.bts_eql (a := .zero) (b := .zero); exact rfl; exact rfl) | (refine T.callV rfl rfl (fun w hw => may_0 _ w) ?_) | (refine W1 ?_) | (refine W2 (fun hc => ?_) (fun hc => ?_)) | (intro _))
  all_goals refine TX.ret_tmp rfl rfl (fun w' hw => RetV.eq hw ?_)
  all_goals simp_all [fits]
  all_goals first | (intros; omega) | (obtain rfl : cnt = 0 := by omega
                                       simp_all)
theorem fits_k5 (set : Bts) (text : ByteArray) (mn mx : Int) (kids : List Int) (kv : Value) (cnt : Int) (w : World) (hT : Tab w) :
    Calls Tryd.prog 46 #[.agg (Nod.cells ⟨5, set, text, mn, mx, kids⟩ kv).toArray, .int .i64 cnt] w (RetV w (.bool (fits ⟨5, set, text, mn, mx, kids⟩ cnt))) := by
  refine TC.calls (l := [.agg #[.int .u8 5, .int .u64 set.a, .int .u64 set.b, .int .u64 set.c, .int .u64 set.d, .string text, .int .i64 mn, .int .i64 mx, kv], .int .i64 cnt]) Tryd.func46 rfl Tryd.ntmps46 rfl (St.start w) ?_
  repeat' (first | (apply T.ev_; exact rfl; apply Ev.bts_eql (a := set) (b := .zero); exact rfl; exact rfl) | (apply T.ev_; exact rfl; apply Ev.bts_eql (a := .zero) (b := .zero); exact rfl; exact rfl) | (refine T.callV rfl rfl (fun w hw => may_0 _ w) ?_) | (refine W1 ?_) | (refine W2 (fun hc => ?_) (fun hc => ?_)) | (intro _))
  all_goals refine TX.ret_tmp rfl rfl (fun w' hw => RetV.eq hw ?_)
  all_goals simp_all [fits]
  all_goals first | (intros; omega) | (obtain rfl : cnt = 0 := by omega
                                       simp_all)
theorem fits_k6 (set : Bts) (text : ByteArray) (mn mx : Int) (kids : List Int) (kv : Value) (cnt : Int) (w : World) (hT : Tab w) :
    Calls Tryd.prog 46 #[.agg (Nod.cells ⟨6, set, text, mn, mx, kids⟩ kv).toArray, .int .i64 cnt] w (RetV w (.bool (fits ⟨6, set, text, mn, mx, kids⟩ cnt))) := by
  refine TC.calls (l := [.agg #[.int .u8 6, .int .u64 set.a, .int .u64 set.b, .int .u64 set.c, .int .u64 set.d, .string text, .int .i64 mn, .int .i64 mx, kv], .int .i64 cnt]) Tryd.func46 rfl Tryd.ntmps46 rfl (St.start w) ?_
  repeat' (first | (apply T.ev_; exact rfl; apply Ev.bts_eql (a := set) (b := .zero); exact rfl; exact rfl) | (apply T.ev_; exact rfl; apply Ev.bts_eql (a := .zero) (b := .zero); exact rfl; exact rfl) | (refine T.callV rfl rfl (fun w hw => may_0 _ w) ?_) | (refine W1 ?_) | (refine W2 (fun hc => ?_) (fun hc => ?_)) | (intro _))
  all_goals refine TX.ret_tmp rfl rfl (fun w' hw => RetV.eq hw ?_)
  all_goals simp_all [fits]
  all_goals first | (intros; omega) | (obtain rfl : cnt = 0 := by omega
                                       simp_all)
theorem fits_k7 (set : Bts) (text : ByteArray) (mn mx : Int) (kids : List Int) (kv : Value) (cnt : Int) (w : World) (hT : Tab w) :
    Calls Tryd.prog 46 #[.agg (Nod.cells ⟨7, set, text, mn, mx, kids⟩ kv).toArray, .int .i64 cnt] w (RetV w (.bool (fits ⟨7, set, text, mn, mx, kids⟩ cnt))) := by
  refine TC.calls (l := [.agg #[.int .u8 7, .int .u64 set.a, .int .u64 set.b, .int .u64 set.c, .int .u64 set.d, .string text, .int .i64 mn, .int .i64 mx, kv], .int .i64 cnt]) Tryd.func46 rfl Tryd.ntmps46 rfl (St.start w) ?_
  repeat' (first | (apply T.ev_; exact rfl; apply Ev.bts_eql (a := set) (b := .zero); exact rfl; exact rfl) | (apply T.ev_; exact rfl; apply Ev.bts_eql (a := .zero) (b := .zero); exact rfl; exact rfl) | (refine T.callV rfl rfl (fun w hw => may_0 _ w) ?_) | (refine W1 ?_) | (refine W2 (fun hc => ?_) (fun hc => ?_)) | (intro _))
  all_goals refine TX.ret_tmp rfl rfl (fun w' hw => RetV.eq hw ?_)
  all_goals simp_all [fits]
  all_goals first | (intros; omega) | (obtain rfl : cnt = 0 := by omega
                                       simp_all)
theorem fits_k8 (set : Bts) (text : ByteArray) (mn mx : Int) (kids : List Int) (kv : Value) (cnt : Int) (w : World) (hT : Tab w) :
    Calls Tryd.prog 46 #[.agg (Nod.cells ⟨8, set, text, mn, mx, kids⟩ kv).toArray, .int .i64 cnt] w (RetV w (.bool (fits ⟨8, set, text, mn, mx, kids⟩ cnt))) := by
  refine TC.calls (l := [.agg #[.int .u8 8, .int .u64 set.a, .int .u64 set.b, .int .u64 set.c, .int .u64 set.d, .string text, .int .i64 mn, .int .i64 mx, kv], .int .i64 cnt]) Tryd.func46 rfl Tryd.ntmps46 rfl (St.start w) ?_
  repeat' (first | (apply T.ev_; exact rfl; apply Ev.bts_eql (a := set) (b := .zero); exact rfl; exact rfl) | (apply T.ev_; exact rfl; apply Ev.bts_eql (a := .zero) (b := .zero); exact rfl; exact rfl) | (refine T.callV rfl rfl (fun w hw => may_0 _ w) ?_) | (refine W1 ?_) | (refine W2 (fun hc => ?_) (fun hc => ?_)) | (intro _))
  all_goals refine TX.ret_tmp rfl rfl (fun w' hw => RetV.eq hw ?_)
  all_goals simp_all [fits]
  all_goals first | (intros; omega) | (obtain rfl : cnt = 0 := by omega
                                       simp_all)
theorem fits_k9 (set : Bts) (text : ByteArray) (mn mx : Int) (kids : List Int) (kv : Value) (cnt : Int) (w : World) (hT : Tab w) :
    Calls Tryd.prog 46 #[.agg (Nod.cells ⟨9, set, text, mn, mx, kids⟩ kv).toArray, .int .i64 cnt] w (RetV w (.bool (fits ⟨9, set, text, mn, mx, kids⟩ cnt))) := by
  refine TC.calls (l := [.agg #[.int .u8 9, .int .u64 set.a, .int .u64 set.b, .int .u64 set.c, .int .u64 set.d, .string text, .int .i64 mn, .int .i64 mx, kv], .int .i64 cnt]) Tryd.func46 rfl Tryd.ntmps46 rfl (St.start w) ?_
  repeat' (first | (apply T.ev_; exact rfl; apply Ev.bts_eql (a := set) (b := .zero); exact rfl; exact rfl) | (apply T.ev_; exact rfl; apply Ev.bts_eql (a := .zero) (b := .zero); exact rfl; exact rfl) | (refine T.callV rfl rfl (fun w hw => may_0 _ w) ?_) | (refine W1 ?_) | (refine W2 (fun hc => ?_) (fun hc => ?_)) | (intro _))
  all_goals refine TX.ret_tmp rfl rfl (fun w' hw => RetV.eq hw ?_)
  all_goals simp_all [fits]
  all_goals first | (intros; omega) | (obtain rfl : cnt = 0 := by omega
                                       simp_all)

theorem fits_big (n : Nod) (kv : Value) (cnt : Int) (w : World) (hT : Tab w) (hk : 10 ≤ n.kind) (hk' : n.kind ≤ 255) :
    Calls Tryd.prog 46 #[.agg (n.cells kv).toArray, .int .i64 cnt] w (RetV w (.bool (fits n cnt))) := by
  have hc : decide (10 ≤ n.kind) = true := by simp [hk]
  refine TC.calls (l := [.agg (n.cells kv).toArray, .int .i64 cnt]) Tryd.func46 rfl Tryd.ntmps46 rfl (St.start w) ?_
  repeat' (first | (refine W1 ?_) | (refine W2 (fun hc => ?_) (fun hc => ?_)) | (intro _))
  refine TX.ret_tmp rfl rfl (fun w' hw => RetV.eq hw ?_)
  have h : ∀ k : Int, k < 10 → ¬ n.kind = k := fun k hk e => by omega
  simp [fits, h]

theorem fits_any (n : Nod) (kv : Value) (cnt : Int) (w : World) (hT : Tab w) (hn : n.wf) :
    Calls Tryd.prog 46 #[.agg (n.cells kv).toArray, .int .i64 cnt] w (RetV w (.bool (fits n cnt))) := by
  by_cases hb : 10 ≤ n.kind
  · exact fits_big n kv cnt w hT hb hn.kind.2
  · obtain ⟨kind, set, text, mn, mx, kids⟩ := n
    have h0 := hn.kind.1
    simp only at hb h0
    have hcases : kind = 0 ∨ kind = 1 ∨ kind = 2 ∨ kind = 3 ∨ kind = 4 ∨ kind = 5 ∨ kind = 6 ∨ kind = 7 ∨ kind = 8 ∨ kind = 9 := by omega
    rcases hcases with rfl | rfl | rfl | rfl | rfl | rfl | rfl | rfl | rfl | rfl
    · exact fits_k0 set text mn mx kids kv cnt w hT
    · exact fits_k1 set text mn mx kids kv cnt w hT
    · exact fits_k2 set text mn mx kids kv cnt w hT
    · exact fits_k3 set text mn mx kids kv cnt w hT
    · exact fits_k4 set text mn mx kids kv cnt w hT
    · exact fits_k5 set text mn mx kids kv cnt w hT
    · exact fits_k6 set text mn mx kids kv cnt w hT
    · exact fits_k7 set text mn mx kids kv cnt w hT
    · exact fits_k8 set text mn mx kids kv cnt w hT
    · exact fits_k9 set text mn mx kids kv cnt w hT
end Go.Proofs.YtalnmednhhimhaaDoor
