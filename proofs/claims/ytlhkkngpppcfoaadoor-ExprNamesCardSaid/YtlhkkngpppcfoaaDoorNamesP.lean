/-
  What the closed statement TreeNames asks, as plain facts; the law's own helper copies, walked.
-/
import Derived.Test.YtlhkkngpppcfoaaDoorTreeBack
import Derived.Test.YtlhkkngpppcfoaaDoorRefSub
import Derived.Test.YtlhkkngpppcfoaaDoorMakesHelp
set_option linter.all false
namespace Go.Bonsai
open Go Go.Sl Go.RowKit
theorem nots_depth (k : Nat) : depthP (notsP k) = (k : Int) + 1 := by
  rw [depthP_fo (rightP_spec (notsP_right k)), notsP_chain, foT_chain, chain_depth]
theorem nots_may (k : Nat) (h : k < 1000) : mayP (notsP k) = decide (k ≤ 31) := by
  unfold mayP
  rw [nots_depth, notsP_right, notsP_len]
  have h1 : decide (k + 1 ≤ 1024) = true := by simp; omega
  rw [h1, Bool.true_and, Bool.true_and, decide_eq_decide]
  omega
def choiceN : Nod := ⟨5, .zero, ⟨#[]⟩, 0, 0, []⟩
def aT : Tre := leafP taN
def eT : Tre := leafP emptyN
theorem choiceN_wf : choiceN.wf := smallN_wf (by decide) rfl (by decide) rfl rfl (by decide) (by decide)
theorem aT_right : rightP aT = true := by decide +kernel
theorem eT_right : rightP eT = true := by decide +kernel
theorem aT_depth : depthP aT = 1 := by decide +kernel
theorem eT_depth : depthP eT = 1 := by decide +kernel
def l1 : List Tre := List.replicate 1023 aT
def l2 : List Tre := List.replicate 1023 aT ++ [eT]
theorem l1_right : ∀ t ∈ l1, rightP t = true := fun t h => by rw [List.eq_of_mem_replicate h]; exact aT_right
theorem l2_right : ∀ t ∈ l2, rightP t = true := fun t h => by
  rcases List.mem_append.1 h with h | h
  · exact l1_right t h
  · simp at h; subst h; exact eT_right
theorem l1_wf : ∀ t ∈ l1, t.wf := fun t h => by rw [List.eq_of_mem_replicate h]; exact leafP_wf taN_wf
theorem l2_wf : ∀ t ∈ l2, t.wf := fun t h => by
  rcases List.mem_append.1 h with h | h
  · exact l1_wf t h
  · simp at h; subst h; exact leafP_wf emptyN_wf
theorem fits1 : fits choiceN l1.length = true := by decide +kernel
theorem fits2 : fits choiceN l2.length = true := by decide +kernel
theorem tot1 : tot l1 + 1 ≤ bigN := by decide +kernel
theorem tot2 : tot l2 + 1 ≤ bigN := by decide +kernel
theorem right1 : rightP (ofP choiceN l1).1 = true := (made fits1 l1_right).right
theorem right2 : rightP (ofP choiceN l2).1 = true := (made fits2 l2_right).right
theorem ok1 : (ofP choiceN l1).2 = true := by rw [ofP_is, fits1, allR_iff.2 l1_right]; rfl
theorem ok2 : (ofP choiceN l2).2 = true := by rw [ofP_is, fits2, allR_iff.2 l2_right]; rfl
theorem size1 : sizeP (ofP choiceN l1).1 = 1024 := by rw [made_size fits1 l1_right, tot_sizeL l1_right]; decide +kernel
theorem size2 : sizeP (ofP choiceN l2).1 = 1025 := by rw [made_size fits2 l2_right, tot_sizeL l2_right]; decide +kernel
theorem deepL_rep (t : Tre) (h : depthP t = 1) : ∀ k, deepL (List.replicate (k + 1) t) = 1
  | 0 => by rw [List.replicate_succ, List.replicate_zero]; show max (depthP t) (deepL []) = 1; rw [h]; decide
  | k + 1 => by rw [List.replicate_succ]; show max (depthP t) (deepL (List.replicate (k + 1) t)) = 1; rw [h, deepL_rep t h k]; decide
theorem depth1 : depthP (ofP choiceN l1).1 = 2 := by rw [made_depth fits1 l1_right]; unfold l1; rw [deepL_rep aT aT_depth 1022]; decide
theorem len_of_size {t : Tre} {n : Int} (hr : rightP t = true) (h : sizeP t = n) : (t.nodes.length : Int) = n := by unfold sizeP at h; rwa [if_pos hr] at h
theorem may1 : mayP (ofP choiceN l1).1 = true := by
  have h := len_of_size right1 size1
  unfold mayP
  rw [right1, depth1]
  simp; omega
theorem may2 : mayP (ofP choiceN l2).1 = false := by
  have h := len_of_size right2 size2
  unfold mayP
  rw [show decide ((ofP choiceN l2).1.nodes.length ≤ 1024) = false by simp; omega]
  rfl

def copiesP (s : ByteArray) : Nat → ByteArray
  | 0 => ⟨#[]⟩
  | n + 1 => copiesP s n ++ s
theorem copiesP_size (s : ByteArray) : ∀ n, (copiesP s n).size = n * s.size
  | 0 => by simp [copiesP]; rfl
  | n + 1 => by rw [copiesP, ByteArray.size_append, copiesP_size s n, Nat.add_mul]; omega
def xB : ByteArray := ⟨#[120]⟩
def aB : ByteArray := ⟨#[97]⟩
def nB : ByteArray := ⟨#[110]⟩
def oneS : Bts := ⟨1, 0, 0, 0⟩
def e0 : ByteArray := ⟨#[]⟩
/-- nodes, numbers of kids, and whether they fit -/
def namesTab : List (Nod × Int × Bool) := [
  (⟨0, .zero, e0, 0, 0, []⟩, 0, true), (⟨0, .zero, e0, 0, 0, []⟩, 1, false), (⟨0, .zero, aB, 0, 0, []⟩, 0, false), (⟨0, oneS, e0, 0, 0, []⟩, 0, false), (⟨0, .zero, e0, 1, 0, []⟩, 0, false), (⟨1, .zero, e0, 0, 0, []⟩, 0, true), (⟨1, oneS, e0, 0, 0, []⟩, 0, true), (⟨1, .zero, e0, 0, -1, []⟩, 0, false), (⟨1, .zero, e0, 0, 0, []⟩, 1, false),
  (⟨2, .zero, e0, 0, 0, []⟩, 0, false), (⟨2, .zero, copiesP xB 255, 0, 0, []⟩, 0, true), (⟨2, .zero, copiesP xB 256, 0, 0, []⟩, 0, false), (⟨2, oneS, aB, 0, 0, []⟩, 0, false), (⟨3, .zero, aB, 0, 0, []⟩, 0, true), (⟨3, .zero, ⟨#[49]⟩, 0, 0, []⟩, 0, false), (⟨3, .zero, e0, 0, 0, []⟩, 0, false),
  (⟨4, .zero, e0, 0, 0, []⟩, 1, false), (⟨4, .zero, e0, 0, 0, []⟩, 2, true), (⟨5, .zero, e0, 0, 0, []⟩, 9000, true), (⟨5, .zero, aB, 0, 0, []⟩, 2, false), (⟨4, .zero, e0, 0, 0, []⟩, -1, false),
  (⟨6, .zero, e0, 0, 0, []⟩, 1, true), (⟨6, .zero, e0, 0, -1, []⟩, 1, true), (⟨6, .zero, e0, 99, 99, []⟩, 1, true), (⟨6, .zero, e0, 100, -1, []⟩, 1, false), (⟨6, .zero, e0, 0, 100, []⟩, 1, false), (⟨6, .zero, e0, 2, 1, []⟩, 1, false), (⟨6, .zero, e0, -1, 1, []⟩, 1, false), (⟨6, .zero, e0, 0, -2, []⟩, 1, false), (⟨6, .zero, e0, 0, 1, []⟩, 2, false), (⟨6, .zero, e0, 0, 1, []⟩, 0, false),
  (⟨7, .zero, e0, 0, 0, []⟩, 1, true), (⟨8, .zero, e0, 0, 0, []⟩, 0, false), (⟨7, .zero, e0, 1, 0, []⟩, 1, false), (⟨9, .zero, nB, 0, 0, []⟩, 1, true), (⟨9, .zero, e0, 0, 0, []⟩, 1, false), (⟨9, .zero, nB, 0, 1, []⟩, 1, false), (⟨10, .zero, e0, 0, 0, []⟩, 0, false), (⟨255, .zero, e0, 0, 0, []⟩, 1, false)]
theorem namesTab_fits : ∀ e ∈ namesTab, fits e.1 e.2.1 = e.2.2 := by decide +kernel
def okN (n : Nod) : Bool := decide (0 ≤ n.kind) && decide (n.kind ≤ 255) && (decide (n.set = .zero) || decide (n.set = oneS)) && decide (n.text.size ≤ 1000) && decide (-1000 ≤ n.min) && decide (n.min ≤ 1000) && decide (-1000 ≤ n.max) && decide (n.max ≤ 1000) && decide (n.kids.length ≤ 1000) && n.kids.all fun k => decide (-1000 ≤ k) && decide (k ≤ 1000)
theorem okN_wf {n : Nod} (h : okN n = true) : n.wf := by
  simp only [okN, Bool.and_eq_true, Bool.or_eq_true, decide_eq_true_eq, List.all_eq_true] at h
  obtain ⟨⟨⟨⟨⟨⟨⟨⟨⟨h1, h2⟩, h3⟩, h4⟩, h5⟩, h6⟩, h7⟩, h8⟩, h9⟩, h10⟩ := h
  refine ⟨⟨h1, h2⟩, ?_, by omega, by unfold I64; omega, by unfold I64; omega, ⟨by unfold bigL; omega, fun x hx => by have := h10 x hx; unfold I64; omega⟩⟩
  rcases h3 with h3 | h3 <;> rw [h3] <;> unfold Bts.wf <;> decide
theorem namesTab_wf : ∀ e ∈ namesTab, okN e.1 = true := by decide +kernel
def zN : Nod := ⟨0, .zero, e0, 0, 0, []⟩
def notK (l : List Int) : Nod := ⟨8, .zero, e0, 0, 0, l⟩
def seqK (l : List Int) : Nod := ⟨4, .zero, e0, 0, 0, l⟩
def andN : Nod := ⟨7, .zero, ⟨#[]⟩, 0, 0, []⟩
/-- trees that are not right -/
def badT : List Tre := [⟨[], 0⟩, ⟨[], -1⟩, ⟨[zN], 1⟩, ⟨[zN], -1⟩, ⟨[zN, zN], 1⟩, ⟨[notK [0]], 0⟩, ⟨[zN, notK [0]], 0⟩, ⟨[zN, notK [0], seqK [1, 0]], 2⟩, ⟨[zN, seqK [0, 0]], 1⟩, ⟨[zN, notK [-1]], 1⟩, ⟨[zN, notK [1]], 1⟩]
theorem badT_no : ∀ t ∈ badT, rightP t = false := by decide +kernel
theorem badT_ok : ∀ t ∈ badT, t.nodes.all okN = true ∧ t.nodes.length ≤ 100 ∧ -100 ≤ t.root ∧ t.root ≤ 100 := by decide +kernel
theorem badT_wf : ∀ t ∈ badT, t.wf := fun t h => by
  obtain ⟨h1, h2, h3, h4⟩ := badT_ok t h
  exact ⟨by unfold bigN; omega, fun n hn => okN_wf (List.all_eq_true.1 h1 n hn), by unfold I64; omega⟩
end Go.Bonsai
namespace Go.Proofs.YtlhkkngpppcfoaaDoor
open Go Go.Sl Go.RowKit Go.Bonsai
set_option linter.unusedVariables false
set_option linter.unusedSimpArgs false
theorem Ev.str_add {P : Program} {n : FD} {s : Sg} {M : World → Prop} {ty t u : TypeId} {x y : Operand} {a b : ByteArray} (hx : ev s x = some (.string a)) (hy : ev s y = some (.string b)) (hl : a.size + b.size ≤ 9223372036854775807) : Ev P n s M (.binOp .add t x y u) ty (.string (a ++ b)) := by
  refine ⟨fun ac w o ho ht hf hm => ?_⟩
  have h : ¬ (IntKind.i64.max < ((a.size + b.size : Nat) : Int)) := by
    have : IntKind.i64.max = 9223372036854775807 := by decide
    omega
  have h' : ¬ (IntKind.i64.max < (a.size : Int) + (b.size : Int)) := by simpa using h
  have hl' : (a.size : Int) + (b.size : Int) ≤ 9223372036854775807 := by omega
  simp [execOp, ho, hf.ev hx, hf.ev hy, eqGuard, binOp, Op.stringOp, h, h', hl']
theorem Ev.build_arr {P : Program} {n : FD} {s : Sg} {M : World → Prop} {ty t len e sz : Nat} {cs0 cs : Array Value} {ps : List (Nat × Operand)} {vs : List (Nat × Value)} [ht : AT P t len e sz] [hz : ZV P t (.agg cs0)] (hvs : evp s ps = some vs) (hc : Instr.fill (fun i => some (i * sz, sz)) cs0 vs = some cs) :
    Ev P n s M (.build t ps.toArray) ty (.agg cs) := by
  refine ⟨fun a w o ho ht' hf hm => ?_⟩
  obtain ⟨inf, h1, h2⟩ := ht.info
  have e1 := evp_eq hf hvs
  rw [← e1] at hc
  simp [execOp, ho, Instr.build, hz.run w, run_underlying ht.und, sizeOf, typeInfo, h1, h2, Value.cells, hc]
theorem all_sz {vs : List Value} {sz : Nat} (h : (vs.all fun v => Nat.beq v.cells.size sz) = true) : ∀ v ∈ vs, v.cells.size = sz := fun v hv => Nat.eq_of_beq_eq_true (List.all_eq_true.1 h v hv)
theorem copies_any (s : ByteArray) (k : Nat) (w : World) (hs : s.size ≤ 1000) (hk : k ≤ 1000) : Calls Tryd.prog 41 #[.string s, .int .i64 (k : Int)] w (RetV w (.string (copiesP s k))) := by
  refine TC.calls (l := [.string s, .int .i64 (k : Int)]) Tryd.func41 rfl Tryd.ntmps41 rfl (St.start w) ?_
  repeat' (first | (refine W1 ?_) | (refine W2 (fun hc => ?_) (fun hc => ?_)) | (intro _))
  refine TC.loopA (ι := Nat) 0 (fun i r => (5, .string (copiesP s i)) :: (6, .int .i64 i) :: r) (fun _ => St w []) (fun i => i ≤ k) (fun i => k - i) KpA SubA (fun w' hw => hw) (Nat.zero_le _) ?_
  intro i hi
  by_cases hlt : i < k
  · have hck : decide ((i : Int) < (k : Int)) = true := by simp [hlt]
    have hsz : (copiesP s i).size + s.size ≤ 9223372036854775807 := by
      rw [copiesP_size]
      have : i * s.size ≤ 1000 * 1000 := Nat.mul_le_mul (by omega) hs
      omega
    repeat' (first | (apply T.ev_; exact rfl; apply Ev.str_add; exact rfl; exact rfl; assumption) | (refine W1 ?_) | (refine W2 (fun hc => ?_) (fun hc => ?_)) | (intro _))
    exact TX.round (i + 1) hlt (by omega) SubA (fun w' hw => hw)
  · have hck : decide ((i : Int) < (k : Int)) = false := by simp; omega
    obtain rfl : i = k := by omega
    repeat' (first | (refine W1 ?_) | (refine W2 (fun hc => ?_) (fun hc => ?_)) | (intro _))
    exact TX.ret_tmp rfl rfl (fun w' hw => RetV.eq hw rfl)
end Go.Proofs.YtlhkkngpppcfoaaDoor
