/-
  A number's text, of every int: by the contract laid. The condition is that the table of the powers of ten reads as it is laid.
-/
import Derived.Test.YtalnmednhhimhaaDoorItoa
import Derived.Test.YtalnmednhhimhaaDoorLaid4
import Derived.Lib.LaidTab
import Derived.Lib.ItoaLen
set_option linter.all false
namespace Go.Proofs.YtalnmednhhimhaaDoor
open Go Go.Sl Go.RowKit Go.Bonsai
set_option linter.unusedVariables false
set_option linter.unusedSimpArgs false
def TabI (w : World) : Prop := Lib.TabIs Tryd.prog w "internal/strconv.uint64pow10" .u64 Lib.pow10Tab
theorem TabI.st {w0 w : World} {L : List HP} (h : TabI w0) (hs : St w0 L w) : TabI w := by
  have hg : Tryd.prog.globalNamed "internal/strconv.uint64pow10" = some 3 := by kernel_rfl
  unfold TabI Lib.TabIs at h ⊢
  unfold World.var? at h ⊢
  rw [hg] at h ⊢
  simp only [Option.bind_some] at h ⊢
  cases ho : w0.heap[3]? with
  | none => rw [ho] at h; cases h
  | some o =>
    have hlt : 3 < w0.heap.size := (Array.getElem?_eq_some_iff.1 ho).1
    rw [hs.below.block _ hlt]
    exact h
theorem itoa_any (x : Int) (w : World) (hx : I64 x) (hI : TabI w) : Calls Tryd.prog 52 #[.int .i64 x] w (RetV w (.string ⟨(Lib.itoa x).toArray⟩)) := by
  unfold I64 at hx
  refine (Tryd.strconv_Itoa x (by omega) (by omega) w hI).mono fun e w' ⟨he, k, os, hw⟩ => ⟨he, ?_⟩
  subst hw
  refine ⟨rfl, rfl, rfl, ?_, fun i hi => ?_⟩
  · simp [Sort.grow, World.drewN]
  · simp [Sort.grow, World.drewN, Array.getElem?_append, hi]
theorem int_any (x : Int) (w : World) (hx : I64 x) (hI : TabI w) : Calls Tryd.prog 29 #[.int .i64 x] w (RetV w (.string ⟨(Lib.itoa x).toArray⟩)) := by
  refine TC.calls (l := [.int .i64 x]) Tryd.func29 rfl Tryd.ntmps29 rfl (St.start w) ?_
  repeat' (first | ((apply T.callV (f := 52); exact rfl; exact rfl; exact fun w' hw' => itoa_any x w' hx (hI.st hw'))) | (refine W1 ?_) | (refine W2 (fun hc => ?_) (fun hc => ?_)) | (intro _))
  exact TX.ret_tmp rfl rfl (fun w' hw => RetV.eq hw rfl)
theorem gPow : Tryd.prog.globalNamed "internal/strconv.uint64pow10" = some 3 := by kernel_rfl
theorem tPow : (Tryd.prog.globals[3]?).map (·.type) = some 152 := by kernel_rfl
theorem tabI_of_laid {W : World} (h : laidMetH Tryd.prog laid4 W) : TabI W := by
  rw [MakeChecks.laidMetH_plain _ _ _ (by kernel_rfl)] at h
  obtain ⟨ps, hl, _⟩ := h
  obtain ⟨_, _, _, _, _, _, _, _, _, _, ⟨_, _, _, _, _, _, _, _, _, _, ⟨g2, t2, cs2, f2, p2, q2, hg2, ht2, hv2, hd2, _, _⟩, _⟩, _⟩ := hl
  obtain rfl := Option.some.inj (gPow.symm.trans hg2)
  obtain rfl := Option.some.inj (tPow.symm.trans ht2)
  unfold TabI Lib.TabIs
  rw [hv2]
  have e : cs2.toList = Lib.pow10Tab.map fun z => Value.int .u64 z := Lib.cells_of_tab (k := .u64) (zs := Lib.pow10Tab) Tryd.underlying152 Tryd.underlying50 (by kernel_rfl) (by kernel_rfl) hd2
  rw [← e]
theorem itoa_len (x : Int) (hx : I64 x) : (Lib.itoa x).length ≤ 21 := Lib.itoa_length_le x (by unfold I64 at hx; omega) (by unfold I64 at hx; omega)
end Go.Proofs.YtalnmednhhimhaaDoor
