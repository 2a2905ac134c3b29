/-
  The helpers of layer 5's laws, walked; the examples: awake answers true.
-/
import Derived.Test.YtlhkkngpppcfoaaDoorExprRef
import Derived.Test.YtlhkkngpppcfoaaDoorWorks
set_option linter.all false
namespace Go.Bonsai
open Go Go.Sl Go.RowKit
/-- so many trees, nodes, and kids, in all -/
def Small5 (l : List Tre) : Prop := l.length + tot l + totK l < 400
theorem RTrees.of {w0 w : World} {L : List HP} {e n : Nat} {B : Nat} {rows : List (List Value)} {ts : List Tre} (hl : ts.length = n) (hw : St w0 L w) (ha : At L (own e 2 (some ⟨B, 0, none⟩) n n rows)) (h : All2 (RTreeC (Old w) w) rows ts) : RTrees (Old w) w (.slice (some ⟨B, 0, none⟩) n n) ts := by
  subst hl
  exact ⟨_, _, rows, rfl, St.own_arr hw ha, h, Nat.le_refl _⟩
theorem All2.more {α β : Type} {R : α → β → Prop} {a : α} {b : β} {l : List α} {m : List β} (h : R a b) (hh : All2 R l m) : All2 R (a :: l) (b :: m) := by
  refine ⟨by simp [hh.1], fun i x y hx hy => ?_⟩
  cases i with
  | zero => simp at hx hy; subst hx; subst hy; exact h
  | succ i => exact hh.2 i x y (by simpa using hx) (by simpa using hy)
theorem RTree.c {S : Nat → Prop} {w : World} {A : Option Addr} {c : Nat} {t : Tre} (h : RTree S w (.agg #[.slice A t.nodes.length c, .int .i64 t.root]) t) : RTreeC S w [.slice A t.nodes.length c, .int .i64 t.root] t := by
  obtain ⟨nv, e, h1⟩ := h
  simp at e
  subst e
  exact ⟨A, c, rfl, h1⟩
end Go.Bonsai
namespace Go.Proofs.YtlhkkngpppcfoaaDoor
open Go Go.Sl Go.RowKit Go.Bonsai
set_option linter.unusedVariables false
set_option linter.unusedSimpArgs false

set_option maxHeartbeats 1000000 in
theorem large5_any (v : Value) (l : List Tre) (w : World) (hr : RTrees (Old w) w v l) (hl : l.length ≤ 4398046511104) (hwl : ∀ t ∈ l, t.wf) :
    Calls Tryd.prog 53 #[v] w (Ret w (fun b : Bool => .bool b) (fun _ => []) (fun b => b = false → Small5 l)) := by
  obtain ⟨A, c, rows0, rfl, hA, hrows, hc⟩ := hr
  refine TC.calls (l := [.slice A l.length c]) Tryd.func53 rfl Tryd.ntmps53 rfl (St.start w) ?_
  repeat' (first | (refine W1 ?_) | (refine W2 (fun hc => ?_) (fun hc => ?_)) | (intro _))
  refine TC.loopA (ι := Nat × Int) (0, 0) (fun k r => (4, .int .i64 k.1) :: (3, .int .i64 k.2) :: r) (fun _ => St w [])
    (fun k => k.1 ≤ l.length ∧ 0 ≤ k.2 ∧ k.2 ≤ 1300 ∧ (k.2 < 400 → (k.1 : Int) + tot (l.take k.1) + totK (l.take k.1) ≤ k.2)) (fun k => l.length - k.1) KpA SubA (fun w' hw => St.inc IncA hw) ⟨Nat.zero_le _, Int.le_refl _, by simp, by simp [tot, totK]⟩ ?_
  rintro ⟨i, n⟩ ⟨hi, hn0, hn1, hn2⟩
  simp only at hi hn0 hn1 hn2 ⊢
  by_cases hlt : i < l.length
  case neg =>
    have hck : decide ((i : Int) < (l.length : Int)) = false := by simp; omega
    repeat' (first | (refine W1 ?_) | (refine W2 (fun hc => ?_) (fun hc => ?_)) | (intro _))
    refine TX.ret_tmp rfl rfl (fun w' hw => ?_)
    refine Ret.mk (decide (400 ≤ n)) (fun h => ?_) .nil hw
    obtain rfl : i = l.length := by omega
    rw [List.take_of_length_le (Nat.le_refl _)] at hn2
    simp at h
    have := hn2 h
    unfold Small5; omega
  case pos =>
    have hck : decide ((i : Int) < (l.length : Int)) = true := by simp [hlt]
    by_cases hn4 : n < 400
    case neg =>
      have hcn : decide (n < 400) = false := by simpa using hn4
      repeat' (first | (refine W1 ?_) | (refine W2 (fun hc => ?_) (fun hc => ?_)) | (intro _))
      refine TX.ret_tmp rfl rfl (fun w' hw => ?_)
      refine Ret.mk (decide (400 ≤ n)) (fun h => ?_) .nil hw
      simp at h; omega
    case pos =>
      have hcn : decide (n < 400) = true := by simpa using hn4
      obtain ⟨cs, hcs, hrc⟩ := hrows.get (List.getElem?_eq_getElem hlt)
      have hwt := hwl _ (List.getElem_mem hlt)
      have htt := tot_take l i hlt
      have htk := totK_take l i hlt
      have hn2 := hn2 hn4
      generalize l[i] = t at *
      obtain ⟨K, kc, rfl, Kn⟩ := hrc
      obtain ⟨K', kc', rows', e, hK, hrows', _⟩ := Kn
      injection e with e1 e2 e3
      subst e1; subst e3
      have hA' : A = some (A.getD default) := hA.some_ (by omega)
      have hI1 : I64 (n + 1) := by unfold I64; omega
      have hI2 : I64 (n + 1 + min 400 (t.nodes.length : Int)) := by unfold I64; omega
      have htl := hwt.len
      unfold bigN at htl
      repeat' (first | (refine W1 ?_) | (refine W2 (fun hc => ?_) (fun hc => ?_)) | (intro _))
      refine TC.loopA (ι := Nat × Int) (0, n + 1 + min 400 (t.nodes.length : Int)) (fun k r => (5, .int .i64 k.1) :: (3, .int .i64 k.2) :: r) (fun _ => St w [])
        (fun k => k.1 ≤ t.nodes.length ∧ 0 ≤ k.2 ∧ k.2 ≤ 1300 ∧ (k.2 < 400 → (i : Int) + 1 + tot (l.take i) + totK (l.take i) + t.nodes.length + (allKids (t.nodes.take k.1)).length ≤ k.2)) (fun k => t.nodes.length - k.1) KpA SubA (fun w' hw => St.inc IncA hw) ⟨Nat.zero_le _, by show 0 ≤ n + 1 + min 400 (t.nodes.length : Int); omega, by show n + 1 + min 400 (t.nodes.length : Int) ≤ 1300; omega, by show n + 1 + min 400 (t.nodes.length : Int) < 400 → _; intro _; simp [allKids]; omega⟩ ?_
      rintro ⟨k, q⟩ ⟨hk, hq0, hq1, hq2⟩
      simp only at hk hq0 hq1 hq2 ⊢
      by_cases hkt : k < t.nodes.length
      case neg =>
        have hckt : decide ((k : Int) < (t.nodes.length : Int)) = false := by simp; omega
        repeat' (first | (refine W1 ?_) | (refine W2 (fun hc => ?_) (fun hc => ?_)) | (intro _))
        refine TX.round (i + 1, q) ⟨hlt, hq0, hq1, fun h => ?_⟩ (show l.length - (i + 1) < l.length - i by omega) SubA (fun w' hw => St.inc IncA hw)
        have := hq2 h
        show ((i + 1 : Nat) : Int) + tot (l.take (i + 1)) + totK (l.take (i + 1)) ≤ q
        obtain rfl : k = t.nodes.length := by omega
        rw [List.take_of_length_le (Nat.le_refl _)] at this
        omega
      case pos =>
        have hckt : decide ((k : Int) < (t.nodes.length : Int)) = true := by simp [hkt]
        by_cases hq4 : q < 400
        case neg =>
          have hcq : decide (q < 400) = false := by simpa using hq4
          repeat' (first | (refine W1 ?_) | (refine W2 (fun hc => ?_) (fun hc => ?_)) | (intro _))
          exact TX.round (i + 1, q) ⟨hlt, hq0, hq1, fun h => absurd h hq4⟩ (show l.length - (i + 1) < l.length - i by omega) SubA (fun w' hw => St.inc IncA hw)
        case pos =>
          have hcq : decide (q < 400) = true := by simpa using hq4
          have hq2 := hq2 hq4
          obtain ⟨cs, hcs', kv, rfl, K2, kc2, rfl, hK2, hkc2⟩ := hrows'.get (List.getElem?_eq_getElem hkt)
          have hwn := hwt.nodes _ (List.getElem_mem hkt)
          have hak := allKids_takeL (List.getElem?_eq_getElem hkt)
          generalize t.nodes[k] = n2 at *
          have hkl := hwn.kids.1
          have htx := hwn.text
          unfold bigL at hkl
          have hK' : K = some (K.getD default) := hK.some_ (by omega)
          repeat' (first | (refine W1 ?_) | (refine W2 (fun hc => ?_) (fun hc => ?_)) | (intro _))
          refine TX.round (k + 1, q + min 400 (n2.kids.length : Int) + min 400 ((n2.text.size : Int) / 20)) ⟨hkt, ?_, ?_, ?_⟩ (show t.nodes.length - (k + 1) < t.nodes.length - k by omega) SubA (fun w' hw => St.inc IncA hw)
          · show 0 ≤ q + min 400 (n2.kids.length : Int) + min 400 ((n2.text.size : Int) / 20)
            omega
          · show q + min 400 (n2.kids.length : Int) + min 400 ((n2.text.size : Int) / 20) ≤ 1300
            omega
          · show q + min 400 (n2.kids.length : Int) + min 400 ((n2.text.size : Int) / 20) < 400 → _
            intro hq5
            show (i : Int) + 1 + tot (l.take i) + totK (l.take i) + t.nodes.length + (allKids (t.nodes.take (k + 1))).length ≤ q + min 400 (n2.kids.length : Int) + min 400 ((n2.text.size : Int) / 20)
            omega

theorem is5_any (v u : Value) (a b : Tre) (ok : Bool) (w : World) (hra : RTree (Old w) w v a) (hrb : RTree (Old w) w u b) (hwa : a.wf) (hwb : b.wf) : Calls Tryd.prog 56 #[v, .bool ok, u] w (RetV w (.bool (ok && decide (a = b)))) := by
  have h1 := hra
  have h2 := hrb
  obtain ⟨nv, rfl, A1, c1, rows1, rfl, hA1, hrows1, hc1⟩ := hra
  obtain ⟨nv, rfl, A2, c2, rows2, rfl, hA2, hrows2, hc2⟩ := hrb
  have hC1 := h1.c
  have hC2 := h2.c
  refine TC.calls (l := [.agg #[.slice A1 a.nodes.length c1, .int .i64 a.root], .bool ok, .agg #[.slice A2 b.nodes.length c2, .int .i64 b.root]]) Tryd.func56 rfl Tryd.ntmps56 rfl (St.start w) ?_
  cases ok with
  | false =>
    repeat' (first | (refine W1 ?_) | (refine W2 (fun hc => ?_) (fun hc => ?_)) | (intro _))
    exact TX.ret_tmp rfl rfl (fun w' hw => RetV.eq hw rfl)
  | true =>
    repeat' (first | (refine W1 ?_) | (refine W2 (fun hc => ?_) (fun hc => ?_)) | (intro _))
    refine T.callV rfl rfl (fun w' hw' => exacts_any _ _ [a] [b] w' (RTrees.old1b hw' AtA hC1) (RTrees.old1b hw' AtA hC2) (by unfold bigN; simp) (by unfold bigN; simp) (by intro x hx; simp at hx; subst hx; exact hwa) (by intro x hx; simp at hx; subst hx; exact hwb)) ?_
    repeat' (first | (refine W1 ?_) | (refine W2 (fun hc => ?_) (fun hc => ?_)) | (intro _))
    refine TX.ret_tmp rfl rfl (fun w' hw => RetV.eq hw ?_)
    simp
theorem text5_any (s : ByteArray) (w : World) : Calls Tryd.prog 84 #[.string s] w (RetT w ⟨[⟨2, .zero, s, 0, 0, []⟩], 0⟩) := by
  refine TC.calls (l := [.string s]) Tryd.func84 rfl Tryd.ntmps84 rfl (St.start w) ?_
  repeat' (first | (refine W1 ?_) | (refine W2 (fun hc => ?_) (fun hc => ?_)) | (intro _))
  refine T.callR rfl rfl (fun w' hw' => tree_text s w') (fun p _ => ?_)
  repeat' (first | (refine W1 ?_) | (refine W2 (fun hc => ?_) (fun hc => ?_)) | (intro _))
  refine TX.ret_gen (rs := [.cell 2 24]) (vs := [.agg #[.slice p.1 1 p.2, .int .i64 0]]) rfl (.cell rfl (blk_res (cs := [.slice p.1 1 p.2, .int .i64 0]) AtA rfl) .nil) (fun w' hw => ?_)
  exact Ret.mk p trivial IncA hw
theorem of5_any (n : Nod) (hn0 : n = ⟨n.kind, .zero, ⟨#[]⟩, 0, 0, []⟩) (v : Value) (l : List Tre) (w : World) (hn : n.wf) (hr : RTrees (Old w) w v l) (hl : l.length ≤ bigN) (hwl : ∀ t ∈ l, t.wf) (hto : tot l + 1 ≤ bigN) (hT : Tab w) :
    Calls Tryd.prog 83 #[.int .u8 n.kind, v] w (RetT w (ofP n l).1) := by
  have hr0 := hr
  obtain ⟨A, c, rows0, rfl, hA, hrows, hc⟩ := hr
  refine TC.calls (l := [.int .u8 n.kind, .slice A l.length c]) Tryd.func83 rfl Tryd.ntmps83 rfl (St.start w) ?_
  obtain ⟨k, hk⟩ : ∃ k, n.kind = k := ⟨_, rfl⟩
  rw [hk] at hn0 ⊢
  subst hn0
  obtain ⟨z, hz⟩ : ∃ z, z = ofP ⟨k, .zero, ⟨#[]⟩, 0, 0, []⟩ l := ⟨_, rfl⟩
  rw [← hz]
  repeat' (first | (refine W1 ?_) | (refine W2 (fun hc => ?_) (fun hc => ?_)) | (intro _))
  refine T.callR rfl rfl (fun w' hw' => by have h := of_any ⟨k, .zero, ⟨#[]⟩, 0, 0, []⟩ (.slice none 0 0) _ l w' hn (St.old_trees hw' hr0) hl hwl hto (Tab.st hT hw'); rw [← hz] at h; exact h) (fun q _ => ?_)
  repeat' (first | (refine W1 ?_) | (refine W2 (fun hc => ?_) (fun hc => ?_)) | (intro _))
  refine TX.ret_gen (rs := [.cell 4 24]) (vs := [.agg #[.slice q.1 z.1.nodes.length q.2, .int .i64 z.1.root]]) rfl (.cell rfl (blk_res (cs := [.slice q.1 z.1.nodes.length q.2, .int .i64 z.1.root]) AtA rfl) .nil) (fun w' hw => ?_)
  exact Ret.mk q trivial IncA hw
end Go.Proofs.YtlhkkngpppcfoaaDoor

namespace Go.Sl
theorem AtR {L : List HP} {H : HP} (h : At L H := by (try simp only [List.cons_append, List.nil_append]); repeat (first | with_reducible exact At.here | with_reducible apply At.there)) : At L H := h
theorem IncB {L L' : List HP} (h : Inc L L' := by (try simp only [List.cons_append, List.nil_append]); repeat (first | with_reducible exact Inc.refl _ | apply Inc.skip)) : Inc L L' := h
section
variable {P : Program} {C : World → Prop} {ops : Array Oper} {Q : Exit → Act → World → Prop} {n : FD} {s : Sg} {M : World → Prop}
/-- kinds, by the operations that are left -/
def kfo : List Oper → Nat → Kd
  | [], _ => .loud
  | o :: _, 0 => kdOf o
  | _ :: l, i + 1 => kfo l i
theorem wpLexL_sh (o : Oper) (l : List Oper) : ∀ (rest : List Oper) (i : Nat), wpLexL P C ops (kfo (o :: l)) Q (i + 1) rest = wpLexL P C ops (kfo l) Q i rest
  | [], _ => rfl
  | q :: r, i => by
    simp only [wpLexL]
    rw [wpLexL_sh o l r (i + 1)]
    rfl
theorem TL.sh {o : Oper} {l rest : List Oper} {i : Nat} (k : TL P C ops (kfo l) Q i rest n s M) : TL P C ops (kfo (o :: l)) Q (i + 1) rest n s M :=
  ⟨fun a w hf hm => by rw [wpLexL_sh]; exact k.go a w hf hm⟩
theorem kfo_get : ∀ (l : List Oper) (i : Nat), kfo l i = match l[i]? with
    | some o => kdOf o
    | none => .loud
  | [], i => by simp [kfo]
  | o :: l, 0 => rfl
  | o :: l, i + 1 => by rw [kfo, kfo_get l i]; simp
theorem pk_range (l : List Oper) : pk l (List.range l.length) = l := by
  unfold pk
  apply List.ext_getElem?
  intro i
  rw [List.getElem?_map]
  by_cases h : i < l.length
  · rw [List.getElem?_range h]
    simp [h]
  · simp [h]
theorem kr_range (l : List Oper) (i : Nat) (h : i < l.length) : kr (kds l []) (List.range l.length) i = kfo l i := by
  unfold kr kds
  rw [kfo_get]
  simp [h]
theorem wpLexL_ks {ks ks' : Nat → Kd} : ∀ (rest : List Oper) (i : Nat), (∀ j, i ≤ j → j < i + rest.length → ks j = ks' j) → wpLexL P C ops ks Q i rest = wpLexL P C ops ks' Q i rest
  | [], _, _ => rfl
  | o :: r, i, h => by
    simp only [wpLexL]
    rw [h i (Nat.le_refl _) (by simp), wpLexL_ks r (i + 1) (fun j h1 h2 => h j (by omega) (by simp at h2 ⊢; omega))]
/-- all operations, in the text's order -/
theorem TT.all {l : List Oper} {r : List Nat} {t : Tr} (hr : Nat.beq r.length l.length = true) (hr2 : r = List.range r.length) (k : TL P C l.toArray (kfo l) (fun _ => wpT P C l.toArray (kds l []) Q t) 0 l n s M) : TT P C l (kds l []) Q (.seg r t) n s M := by
  have e : r.length = l.length := Nat.eq_of_beq_eq_true hr
  rw [e] at hr2
  subst hr2
  refine TT.seg (by simp [Nat.blt_eq]) ⟨fun a w hf hm => ?_⟩
  have := k.go a w hf hm
  rw [pk_range]
  rwa [wpLexL_ks (ks' := kfo l) l 0 (fun j _ h2 => kr_range l j (by simpa using h2))]
end
theorem St.base {w0 : World} {L L' : List HP} (h : Inc L L') : ∀ w, St w0 L w → St w0 L' w := fun _ hw => St.inc h hw
end Go.Sl
namespace Go.Bonsai
open Go Go.Sl Go.RowKit
def tx (s : List UInt8) : Tre := ⟨[⟨2, .zero, ⟨s.toArray⟩, 0, 0, []⟩], 0⟩
def ru (s : List UInt8) : Tre := ⟨[⟨3, .zero, ⟨s.toArray⟩, 0, 0, []⟩], 0⟩
def em : Tre := ⟨[⟨0, .zero, ⟨#[]⟩, 0, 0, []⟩], 0⟩
def se : Tre := ⟨[⟨1, .zero, ⟨#[]⟩, 0, 0, []⟩], 0⟩
/-- what the examples come to -/
structure Aw (em se a b c x y z abc bc xy xyz rp : Tre) (A B C D E F G R H I N : Tre × Bool) : Prop where
  e1 : (ofP seqN0 [a, b, c]).1 = abc
  e2 : (ofP seqN0 [b, c]).1 = bc
  e3 : (ofP choN0 [x, y]).1 = xy
  e4 : (ofP choN0 [x, y, z]).1 = xyz
  qA : putP seqN0 [a, em, bc] = A
  qB : putP seqN0 [] = B
  qC : putP seqN0 [em] = C
  qD : putP choN0 [xy, z] = D
  qE : putP choN0 [] = E
  qF : headP abc = F
  qG : tailP abc = G
  qR : putP (repN 0 (-1)) [x] = R
  qH : headP rp = H
  qI : tailP rp = I
  qN : putP (repN 3 2) [x] = N
  rA : A = (abc, true)
  rB : B = (em, true)
  rC : C = (em, true)
  rD : D = (xyz, true)
  rE : E = (se, true)
  rF : F = (a, true)
  rG : G = (bc, true)
  rR : R = (rp, true)
  rH : H = (rp, true)
  rI : I = (em, true)
  rN : N.2 = false
  w : (∀ t ∈ [a, b, c, x, y, z, abc, bc, xy, xyz, rp, N.1, em, se], t.wf ∧ t.nodes.length ≤ 10)
theorem smallT_wf {t : Tre} (h : ∀ n ∈ t.nodes, n.wf) (hl : t.nodes.length ≤ 10) (hr : -100 ≤ t.root ∧ t.root ≤ 100) : t.wf ∧ t.nodes.length ≤ 10 :=
  ⟨⟨by unfold bigN; omega, h, by unfold I64; omega⟩, hl⟩
def okNB (n : Nod) : Bool := decide (0 ≤ n.kind) && decide (n.kind ≤ 255) && decide (n.set = .zero) && decide (n.text.size ≤ 100) && decide (-1000 ≤ n.min) && decide (n.min ≤ 1000) && decide (-1000 ≤ n.max) && decide (n.max ≤ 1000) && decide (n.kids.length ≤ 100) && n.kids.all fun k => decide (0 ≤ k) && decide (k ≤ 100)
def okTB (t : Tre) : Bool := t.nodes.all okNB && decide (t.nodes.length ≤ 10) && decide (-100 ≤ t.root) && decide (t.root ≤ 100)
theorem okTB_wf {t : Tre} (h : okTB t = true) : t.wf ∧ t.nodes.length ≤ 10 := by
  simp only [okTB, Bool.and_eq_true, decide_eq_true_eq, List.all_eq_true] at h
  refine smallT_wf (fun n hn => ?_) h.1.1.2 ⟨h.1.2, h.2⟩
  have h1 := h.1.1.1 n hn
  simp only [okNB, Bool.and_eq_true, decide_eq_true_eq, List.all_eq_true] at h1
  obtain ⟨⟨⟨⟨⟨⟨⟨⟨⟨a1, a2⟩, a3⟩, a4⟩, a5⟩, a6⟩, a7⟩, a8⟩, a9⟩, a10⟩ := h1
  have hs := smallN_wf (n := { n with min := 0, max := 0 }) ⟨a1, a2⟩ a3 a4 rfl rfl a9 a10
  exact ⟨hs.kind, hs.set, hs.text, by unfold I64; omega, by unfold I64; omega, hs.kids⟩
theorem aw_ex : ∃ em se a b c x y z abc bc xy xyz rp : Tre, ∃ A B C D E F G R H I N : Tre × Bool, Aw em se a b c x y z abc bc xy xyz rp A B C D E F G R H I N ∧ a = tx [97] ∧ b = tx [98] ∧ c = tx [99] ∧ x = ru [120] ∧ y = ru [121] ∧ z = ru [122] ∧ em = _root_.Go.Bonsai.em ∧ se = _root_.Go.Bonsai.se := by
  refine ⟨em, se, tx [97], tx [98], tx [99], ru [120], ru [121], ru [122], _, _, _, _, (putP (repN 0 (-1)) [ru [120]]).1, _, _, _, _, _, _, _, _, _, _, _, ⟨rfl, rfl, rfl, rfl, rfl, rfl, rfl, rfl, rfl, rfl, rfl, rfl, rfl, rfl, rfl, ?_, ?_, ?_, ?_, ?_, ?_, ?_, ?_, ?_, ?_, ?_, ?_⟩, rfl, rfl, rfl, rfl, rfl, rfl, rfl, rfl⟩
  case refine_12 =>
    have h : ([tx [97], tx [98], tx [99], ru [120], ru [121], ru [122], (ofP seqN0 [tx [97], tx [98], tx [99]]).1, (ofP seqN0 [tx [98], tx [99]]).1, (ofP choN0 [ru [120], ru [121]]).1, (ofP choN0 [ru [120], ru [121], ru [122]]).1, (putP (repN 0 (-1)) [ru [120]]).1, (putP (repN 3 2) [ru [120]]).1, em, se].all okTB) = true := by decide +kernel
    exact fun t ht => okTB_wf (List.all_eq_true.1 h t ht)
  all_goals decide +kernel
end Go.Bonsai
namespace Go.Proofs.YtlhkkngpppcfoaaDoor
open Go Go.Sl Go.RowKit Go.Bonsai
set_option linter.unusedVariables false
set_option linter.unusedSimpArgs false

theorem tot_small {l : List Tre} (h : ∀ t ∈ l, t.wf ∧ t.nodes.length ≤ 10) : tot l ≤ 10 * l.length := by
  induction l with
  | nil => simp [tot]
  | cons t l ih =>
    have h1 := (h t (by simp)).2
    have h2 := ih (fun x hx => h x (by simp [hx]))
    rw [tot_cons, List.length_cons]
    omega
theorem of5_small {n : Nod} {l : List Tre} {r : Tre} (he : (ofP n l).1 = r) (hn0 : n = ⟨n.kind, .zero, ⟨#[]⟩, 0, 0, []⟩) (hn : n.wf) (hl : l.length ≤ 100) (h : ∀ t ∈ l, t.wf ∧ t.nodes.length ≤ 10) (v : Value) (w : World) (hr : RTrees (Old w) w v l) (hT : Tab w) :
    Calls Tryd.prog 83 #[.int .u8 n.kind, v] w (RetT w r) := by
  have h1 := tot_small h
  rw [← he]
  exact of5_any n hn0 v l w hn hr (by unfold bigN; omega) (fun t ht => (h t ht).1) (by unfold bigN; omega) hT
theorem eseq_small {l : List Tre} {r : Tre × Bool} (he : putP seqN0 l = r) (hl : l.length ≤ 100) (h : ∀ t ∈ l, t.wf ∧ t.nodes.length ≤ 10) (v : Value) (w : World) (hr : RTrees (Old w) w v l) (hT : Tab w) :
    Calls Tryd.prog 55 #[v] w (RetTB w r) := by
  have h1 := tot_small h
  rw [← he]
  exact eseq_any v l w hr (by unfold bigN; omega) (fun t ht => (h t ht).1) (by unfold bigN; omega) hT
theorem echo_small {l : List Tre} {r : Tre × Bool} (he : putP choN0 l = r) (hl : l.length ≤ 100) (h : ∀ t ∈ l, t.wf ∧ t.nodes.length ≤ 10) (v : Value) (w : World) (hr : RTrees (Old w) w v l) (hT : Tab w) :
    Calls Tryd.prog 57 #[v] w (RetTB w r) := by
  have h1 := tot_small h
  rw [← he]
  exact echoice_any v l w hr (by unfold bigN; omega) (fun t ht => (h t ht).1) (by unfold bigN; omega) hT
theorem RTrees.none {S : Nat → Prop} {w : World} : RTrees S w (.slice none 0 0) [] := ⟨Option.none, 0, [], rfl, Arr.nil, .nil, Nat.le_refl _⟩
theorem TL.outer {P : Program} {C : World → Prop} {ops : Array Oper} {ks : Nat → Kd} {Q : Exit → Act → World → Prop} {i : Nat} {rest rest' : List Oper} {n : FD} {s : Sg} {M : World → Prop} (e : rest = rest') (k : TL P C ops ks Q i rest' n s M) : TL P C ops ks Q i rest n s M := e ▸ k
set_option maxHeartbeats 8000000 in
set_option maxRecDepth 100000 in
theorem awake5_any (w : World) (hT : Tab w) : Calls Tryd.prog 54 #[] w (RetV w (.bool true)) := by
  refine TC.calls (l := []) Tryd.func54 rfl Tryd.ntmps54 rfl (St.start w) ?_
  obtain ⟨em, se, a, b, c, x, y, z, abc, bc, xy, xyz, rp, A, B, C, D, E, F, G, R, H, I, N, hw, ha, hb, hc, hx, hy, hz, he, hs⟩ := aw_ex
  have ta : ∀ w', Calls Tryd.prog 84 #[.string ⟨#[97]⟩] w' (RetT w' a) := fun w' => by rw [ha]; exact text5_any ⟨#[97]⟩ w'
  have tb : ∀ w', Calls Tryd.prog 84 #[.string ⟨#[98]⟩] w' (RetT w' b) := fun w' => by rw [hb]; exact text5_any ⟨#[98]⟩ w'
  have tc : ∀ w', Calls Tryd.prog 84 #[.string ⟨#[99]⟩] w' (RetT w' c) := fun w' => by rw [hc]; exact text5_any ⟨#[99]⟩ w'
  have tx_ : ∀ w', Calls Tryd.prog 27 #[.string ⟨#[120]⟩] w' (RetT w' x) := fun w' => by rw [hx]; exact tree_rule ⟨#[120]⟩ w'
  have ty_ : ∀ w', Calls Tryd.prog 27 #[.string ⟨#[121]⟩] w' (RetT w' y) := fun w' => by rw [hy]; exact tree_rule ⟨#[121]⟩ w'
  have tz_ : ∀ w', Calls Tryd.prog 27 #[.string ⟨#[122]⟩] w' (RetT w' z) := fun w' => by rw [hz]; exact tree_rule ⟨#[122]⟩ w'
  have te : ∀ w', Calls Tryd.prog 23 #[] w' (RetT w' em) := fun w' => by rw [he]; exact tree_empty w'
  have ts : ∀ w', Calls Tryd.prog 25 #[.agg Bts.zero.vals.toArray] w' (RetT w' se) := fun w' => by rw [hs]; exact tree_set .zero w'
  clear ha hb hc hx hy hz he hs
  obtain ⟨e1, e2, e3, e4, qA, qB, qC, qD, qE, qF, qG, qR, qH, qI, qN, rA, rB, rC, rD, rE, rF, rG, rR, rH, rI, rN, hwf⟩ := hw
  have sa := hwf a (by simp)
  have sb := hwf b (by simp)
  have sc := hwf c (by simp)
  have sx := hwf x (by simp)
  have sy := hwf y (by simp)
  have sz := hwf z (by simp)
  have sabc := hwf abc (by simp)
  have sbc := hwf bc (by simp)
  have sxy := hwf xy (by simp)
  have sxyz := hwf xyz (by simp)
  have srp := hwf rp (by simp)
  have sem := hwf em (by simp)
  have sse := hwf se (by simp)
  clear hwf
  have l1 : ∀ {p : Tre → Prop} {s : Tre}, p s → ∀ t ∈ [s], p t := fun h t ht => by simp at ht; subst ht; exact h
  have l2 : ∀ {p : Tre → Prop} {s r : Tre}, p s → p r → ∀ t ∈ [s, r], p t := fun h1 h2 t ht => by simp at ht; rcases ht with rfl | rfl <;> assumption
  have l3 : ∀ {p : Tre → Prop} {s r q : Tre}, p s → p r → p q → ∀ t ∈ [s, r, q], p t := fun h1 h2 h3 t ht => by simp at ht; rcases ht with rfl | rfl | rfl <;> assumption
  have sA : A.1.wf := by rw [rA]; exact sabc.1
  have sB : B.1.wf := by rw [rB]; exact sem.1
  have sC : C.1.wf := by rw [rC]; exact sem.1
  have sD : D.1.wf := by rw [rD]; exact sxyz.1
  have sE : E.1.wf := by rw [rE]; exact sse.1
  have sF : F.1.wf := by rw [rF]; exact sa.1
  have sG : G.1.wf := by rw [rG]; exact sbc.1
  have sR : R.1.wf ∧ R.1.nodes.length ≤ 10 := by rw [rR]; exact srp
  have sH : H.1.wf := by rw [rH]; exact srp.1
  have sI : I.1.wf := by rw [rI]; exact sem.1
  have kA : (A.2 && decide (A.1 = abc)) = true := by rw [rA]; simp
  have kB : (B.2 && decide (B.1 = em)) = true := by rw [rB]; simp
  have kC : (C.2 && decide (C.1 = em)) = true := by rw [rC]; simp
  have kD : (D.2 && decide (D.1 = xyz)) = true := by rw [rD]; simp
  have kE : (E.2 && decide (E.1 = se)) = true := by rw [rE]; simp
  have kF : (F.2 && decide (F.1 = a)) = true := by rw [rF]; simp
  have kG : (G.2 && decide (G.1 = bc)) = true := by rw [rG]; simp
  have kR : R.2 = true := by rw [rR]
  have kH : (H.2 && decide (H.1 = R.1)) = true := by rw [rH, rR]; simp
  have kI : (I.2 && decide (I.1 = em)) = true := by rw [rI]; simp
  rw [show rp = R.1 by rw [rR]] at qH qI
  clear rA rB rC rD rE rF rG rR rH rI
  repeat' (first | ((apply T.ev_; exact rfl; apply Ev.loadW; exact rfl; exact AtR; exact rfl)) | (refine W1 ?_) | (refine W2 (fun hc => ?_) (fun hc => ?_)) | (intro _))
  refine T.callR rfl rfl (fun w' hw' => ta w') (fun p1 _ => ?_)
  refine T.callR rfl rfl (fun w' hw' => tb w') (fun p2 _ => ?_)
  refine T.callR rfl rfl (fun w' hw' => tc w') (fun p3 _ => ?_)
  repeat' (first | ((apply T.ev_; exact rfl; apply Ev.loadW; exact rfl; exact AtR; exact rfl)) | (refine W1 ?_) | (refine W2 (fun hc => ?_) (fun hc => ?_)) | (intro _))
  rename_i B1
  refine T.callR rfl rfl (fun w' hw' => of5_small e1 rfl seqN0_wf (by simp) (l3 sa sb sc) _ w' (RTrees.of rfl hw' .here (All2.more (St.get_treeN (A := p1.1) (c := p1.2) hw' AtR).c (All2.more (St.get_treeN (A := p2.1) (c := p2.2) hw' AtR).c (All2.more (St.get_treeN (A := p3.1) (c := p3.2) hw' AtR).c .nil)))) (Tab.st hT hw')) (fun q1 _ => ?_)
  repeat' (first | ((apply T.ev_; exact rfl; apply Ev.loadW; exact rfl; exact AtR; exact rfl)) | (refine W1 ?_) | (refine W2 (fun hc => ?_) (fun hc => ?_)) | (intro _))
  rename_i v1
  refine T.callR rfl rfl (fun w' hw' => tx_ w') (fun p4 _ => ?_)
  refine T.callR rfl rfl (fun w' hw' => ty_ w') (fun p5 _ => ?_)
  refine T.callR rfl rfl (fun w' hw' => tz_ w') (fun p6 _ => ?_)
  repeat' (first | ((apply T.ev_; exact rfl; apply Ev.loadW; exact rfl; exact AtR; exact rfl)) | (refine W1 ?_) | (refine W2 (fun hc => ?_) (fun hc => ?_)) | (intro _))
  rename_i v2 v3 v4
  refine T.callR rfl rfl (fun w' hw' => ta w') (fun p7 _ => ?_)
  refine T.callR rfl rfl (fun w' hw' => te w') (fun p8 _ => ?_)
  refine T.callR rfl rfl (fun w' hw' => tb w') (fun p9 _ => ?_)
  refine T.callR rfl rfl (fun w' hw' => tc w') (fun p10 _ => ?_)
  repeat' (first | ((apply T.ev_; exact rfl; apply Ev.loadW; exact rfl; exact AtR; exact rfl)) | (refine W1 ?_) | (refine W2 (fun hc => ?_) (fun hc => ?_)) | (intro _))
  rename_i B2
  refine T.callR rfl rfl (fun w' hw' => of5_small e2 rfl seqN0_wf (by simp) (l2 sb sc) _ w' (RTrees.of rfl hw' .here (All2.more (St.get_treeN (A := p9.1) (c := p9.2) hw' AtR).c (All2.more (St.get_treeN (A := p10.1) (c := p10.2) hw' AtR).c .nil))) (Tab.st hT hw')) (fun q2 _ => ?_)
  repeat' (first | ((apply T.ev_; exact rfl; apply Ev.loadW; exact rfl; exact AtR; exact rfl)) | (refine W1 ?_) | (refine W2 (fun hc => ?_) (fun hc => ?_)) | (intro _))
  rename_i B3
  refine T.callR rfl rfl (fun w' hw' => eseq_small qA (by simp) (l3 sa sem sbc) _ w' (RTrees.of rfl hw' .here (All2.more (St.get_treeN (A := p7.1) (c := p7.2) hw' AtR).c (All2.more (St.get_treeN (A := p8.1) (c := p8.2) hw' AtR).c (All2.more (St.get_treeN (A := q2.1) (c := q2.2) hw' AtR).c .nil)))) (Tab.st hT hw')) (fun q3 _ => ?_)
  repeat' (first | ((apply T.ev_; exact rfl; apply Ev.loadW; exact rfl; exact AtR; exact rfl)) | (refine W1 ?_) | (refine W2 (fun hc => ?_) (fun hc => ?_)) | (intro _))
  rename_i v5
  refine T.callR rfl rfl (fun w' hw' => eseq_small qB (by simp) (fun t ht => by simp at ht) _ w' RTrees.none (Tab.st hT hw')) (fun q4 _ => ?_)
  repeat' (first | ((apply T.ev_; exact rfl; apply Ev.loadW; exact rfl; exact AtR; exact rfl)) | (refine W1 ?_) | (refine W2 (fun hc => ?_) (fun hc => ?_)) | (intro _))
  rename_i v7
  refine T.callR rfl rfl (fun w' hw' => te w') (fun p11 _ => ?_)
  repeat' (first | ((apply T.ev_; exact rfl; apply Ev.loadW; exact rfl; exact AtR; exact rfl)) | (refine W1 ?_) | (refine W2 (fun hc => ?_) (fun hc => ?_)) | (intro _))
  rename_i B4
  refine T.callR rfl rfl (fun w' hw' => eseq_small qC (by simp) (l1 sem) _ w' (RTrees.of rfl hw' .here (All2.more (St.get_treeN (A := p11.1) (c := p11.2) hw' AtR).c .nil)) (Tab.st hT hw')) (fun q5 _ => ?_)
  repeat' (first | ((apply T.ev_; exact rfl; apply Ev.loadW; exact rfl; exact AtR; exact rfl)) | ((refine TC.holdR 6 ?_)) | (refine W1 ?_) | (refine W2 (fun hc => ?_) (fun hc => ?_)) | (intro _))
  rename_i v9
  refine ⟨?_⟩
  refine TC.sub (M' := St w [blk v9 [.slice q5.1 (C.1).nodes.length q5.2, .int .i64 (C.1).root] 24, hNodes (.slice q5.1 (C.1).nodes.length q5.2) (C.1).nodes, blk v7 [.slice q4.1 (B.1).nodes.length q4.2, .int .i64 (B.1).root] 24, hNodes (.slice q4.1 (B.1).nodes.length q4.2) (B.1).nodes, blk v5 [.slice q3.1 (A.1).nodes.length q3.2, .int .i64 (A.1).root] 24, hNodes (.slice q3.1 (A.1).nodes.length q3.2) (A.1).nodes, blk v4 [.slice p6.1 (z).nodes.length p6.2, .int .i64 (z).root] 24, hNodes (.slice p6.1 (z).nodes.length p6.2) (z).nodes, blk v3 [.slice p5.1 (y).nodes.length p5.2, .int .i64 (y).root] 24, hNodes (.slice p5.1 (y).nodes.length p5.2) (y).nodes, blk v2 [.slice p4.1 (x).nodes.length p4.2, .int .i64 (x).root] 24, hNodes (.slice p4.1 (x).nodes.length p4.2) (x).nodes, blk v1 [.slice q1.1 (abc).nodes.length q1.2, .int .i64 (abc).root] 24, hNodes (.slice q1.1 (abc).nodes.length q1.2) (abc).nodes]) (fun w' hw => St.inc IncQ hw) ?_
  refine TC.cutA (ι := Nat × (Option Addr × Nat)) (fun k r => (11, .pointer (some ⟨k.1, 0, none⟩)) :: (12, .bool D.2) :: r) (fun k => St w [blk k.1 [.slice k.2.1 D.1.nodes.length k.2.2, .int .i64 D.1.root] 24, hNodes (.slice k.2.1 D.1.nodes.length k.2.2) D.1.nodes, blk v9 [.slice q5.1 (C.1).nodes.length q5.2, .int .i64 (C.1).root] 24, hNodes (.slice q5.1 (C.1).nodes.length q5.2) (C.1).nodes, blk v7 [.slice q4.1 (B.1).nodes.length q4.2, .int .i64 (B.1).root] 24, hNodes (.slice q4.1 (B.1).nodes.length q4.2) (B.1).nodes, blk v5 [.slice q3.1 (A.1).nodes.length q3.2, .int .i64 (A.1).root] 24, hNodes (.slice q3.1 (A.1).nodes.length q3.2) (A.1).nodes, blk v4 [.slice p6.1 (z).nodes.length p6.2, .int .i64 (z).root] 24, hNodes (.slice p6.1 (z).nodes.length p6.2) (z).nodes, blk v3 [.slice p5.1 (y).nodes.length p5.2, .int .i64 (y).root] 24, hNodes (.slice p5.1 (y).nodes.length p5.2) (y).nodes, blk v2 [.slice p4.1 (x).nodes.length p4.2, .int .i64 (x).root] 24, hNodes (.slice p4.1 (x).nodes.length p4.2) (x).nodes, blk v1 [.slice q1.1 (abc).nodes.length q1.2, .int .i64 (abc).root] 24, hNodes (.slice q1.1 (abc).nodes.length q1.2) (abc).nodes]) KpA (TC.lexT [] (.seg [0, 1, 4] (.both (.seg [2] (.both (.seg [3] (.both (.seg [5] (.both (.seg [6, 7, 8, 9, 10, 11, 12] .fin) (.seg [10, 6, 7, 8, 9, 11, 12] .fin))) (.seg [10, 5, 6, 7, 8, 9, 11, 12] .fin))) (.seg [10, 3, 5, 6, 7, 8, 9, 11, 12] .fin))) (.seg [10, 2, 3, 5, 6, 7, 8, 9, 11, 12] .fin))) mixed (by kernel_rfl) (TT.seg rfl ?_)) (fun k => ?_)
  · repeat' (first | ((apply TX.tree)) | ((apply TT.both)) | ((apply TT.seg; exact rfl)) | ((apply TT.fin)) | ((apply TL.quiet; exact rfl; exact rfl; exact St.base IncB; apply Ev.loadW; exact rfl; exact AtR; exact rfl)) | ((apply TL.keep; exact rfl; exact rfl; exact St.base IncB; exact Ac.alloc rfl; exact fun _ => St.base IncB)) | ((apply TL.keep; exact rfl; exact rfl; exact St.base IncB; (apply Ac.lit2; exact rfl; exact rfl; exact rfl; exact rfl; exact rfl; exact rfl; exact rfl); exact fun _ => St.base IncB)) | ((apply TL.kcallR (f := 83); exact rfl; (intro w' hw'; exact of5_small e3 rfl choN0_wf (by simp) (l2 sx sy) _ w' (RTrees.of rfl hw' (by first | exact .here | exact .there .here | exact .there (.there .here)) (All2.more (St.get_treeN hw' AtR).c (All2.more (St.get_treeN hw' AtR).c .nil))) (Tab.st hT hw')); exact rfl; exact rfl; exact St.base IncB)) | ((apply TL.kcallR (f := 57); exact rfl; (intro w' hw'; exact echo_small qD (by simp) (l2 sxy sz) _ w' (RTrees.of rfl hw' (by first | exact .here | exact .there .here | exact .there (.there .here)) (All2.more (St.get_treeN hw' AtR).c (All2.more (St.get_treeN hw' AtR).c .nil))) (Tab.st hT hw')); exact rfl; exact rfl; exact St.base IncB)) | (refine W1 ?_) | (refine W2 (fun hc => ?_) (fun hc => ?_)) | (intro _))
    all_goals (apply TX.join (_, _); exact SubA; exact fun w' hw => St.inc IncQ hw)
  obtain ⟨v11, q6⟩ := k
  dsimp only
  repeat' (first | ((apply T.ev_; exact rfl; apply Ev.loadW; exact rfl; exact AtR; exact rfl)) | (refine W1 ?_) | (refine W2 (fun hc => ?_) (fun hc => ?_)) | (intro _))
  refine T.callR rfl rfl (fun w' hw' => echo_small qE (by simp) (fun t ht => by simp at ht) _ w' RTrees.none (Tab.st hT hw')) (fun q7 _ => ?_)
  repeat' (first | ((apply T.ev_; exact rfl; apply Ev.loadW; exact rfl; exact AtR; exact rfl)) | (refine W1 ?_) | (refine W2 (fun hc => ?_) (fun hc => ?_)) | (intro _))
  rename_i v13
  refine T.callR rfl rfl (fun w' hw' => by have h := ehead_any _ abc w' (St.get_treeN (A := q1.1) (c := q1.2) hw' AtR) sabc.1 (Tab.st hT hw'); rw [qF] at h; exact h) (fun q8 _ => ?_)
  repeat' (first | ((apply T.ev_; exact rfl; apply Ev.loadW; exact rfl; exact AtR; exact rfl)) | (refine W1 ?_) | (refine W2 (fun hc => ?_) (fun hc => ?_)) | (intro _))
  rename_i v15
  refine T.callR rfl rfl (fun w' hw' => by have h := etail_any _ abc w' (St.get_treeN (A := q1.1) (c := q1.2) hw' AtR) sabc.1 (by have := sabc.2; unfold bigN; omega) (Tab.st hT hw'); rw [qG] at h; exact h) (fun q9 _ => ?_)
  repeat' (first | ((apply T.ev_; exact rfl; apply Ev.loadW; exact rfl; exact AtR; exact rfl)) | (refine W1 ?_) | (refine W2 (fun hc => ?_) (fun hc => ?_)) | (intro _))
  rename_i v17
  refine T.callR rfl rfl (fun w' hw' => by have h := erep_any _ x 0 (-1) (by unfold I64; omega) (by unfold I64; omega) w' (St.get_treeN (A := p4.1) (c := p4.2) hw' AtR) sx.1 (by have := sx.2; unfold bigN; omega) (Tab.st hT hw'); rw [qR] at h; exact h) (fun q10 _ => ?_)
  repeat' (first | ((apply T.ev_; exact rfl; apply Ev.loadW; exact rfl; exact AtR; exact rfl)) | (refine W1 ?_) | (refine W2 (fun hc => ?_) (fun hc => ?_)) | (intro _))
  rename_i v19
  refine T.callR rfl rfl (fun w' hw' => by have h := ehead_any _ R.1 w' (St.get_treeN (A := q10.1) (c := q10.2) hw' AtR) sR.1 (Tab.st hT hw'); rw [qH] at h; exact h) (fun q11 _ => ?_)
  repeat' (first | ((apply T.ev_; exact rfl; apply Ev.loadW; exact rfl; exact AtR; exact rfl)) | (refine W1 ?_) | (refine W2 (fun hc => ?_) (fun hc => ?_)) | (intro _))
  rename_i v21
  refine T.callR rfl rfl (fun w' hw' => by have h := etail_any _ R.1 w' (St.get_treeN (A := q10.1) (c := q10.2) hw' AtR) sR.1 (by have := sR.2; unfold bigN; omega) (Tab.st hT hw'); rw [qI] at h; exact h) (fun q12 _ => ?_)
  repeat' (first | ((apply T.ev_; exact rfl; apply Ev.loadW; exact rfl; exact AtR; exact rfl)) | (refine W1 ?_) | (refine W2 (fun hc => ?_) (fun hc => ?_)) | (intro _))
  rename_i v23
  refine T.callR rfl rfl (fun w' hw' => by have h := erep_any _ x 3 2 (by unfold I64; omega) (by unfold I64; omega) w' (St.get_treeN (A := p4.1) (c := p4.2) hw' AtR) sx.1 (by have := sx.2; unfold bigN; omega) (Tab.st hT hw'); rw [qN] at h; exact h) (fun q13 _ => ?_)
  obtain ⟨wa, wb, wc, wx, wy, wz, wabc, wbc, wxyz, wem, wse, wR⟩ := (⟨sa.1, sb.1, sc.1, sx.1, sy.1, sz.1, sabc.1, sbc.1, sxyz.1, sem.1, sse.1, sR.1⟩ : a.wf ∧ b.wf ∧ c.wf ∧ x.wf ∧ y.wf ∧ z.wf ∧ abc.wf ∧ bc.wf ∧ xyz.wf ∧ em.wf ∧ se.wf ∧ R.1.wf)
  have kN : (!N.2) = true := by rw [rN]; rfl
  repeat' (first | ((apply T.ev_; exact rfl; apply Ev.loadW; exact rfl; exact AtR; exact rfl)) | ((refine TC.holdR 14 ?_)) | (refine W1 ?_) | (refine W2 (fun hc => ?_) (fun hc => ?_)) | (intro _))
  refine ⟨?_⟩
  dsimp only [List.append]
  refine TC.sub (M' := St w [blk v23 [.slice q12.1 (I.1).nodes.length q12.2, .int .i64 (I.1).root] 24, hNodes (.slice q12.1 (I.1).nodes.length q12.2) (I.1).nodes, blk v21 [.slice q11.1 (H.1).nodes.length q11.2, .int .i64 (H.1).root] 24, hNodes (.slice q11.1 (H.1).nodes.length q11.2) (H.1).nodes, blk v19 [.slice q10.1 (R.1).nodes.length q10.2, .int .i64 (R.1).root] 24, hNodes (.slice q10.1 (R.1).nodes.length q10.2) (R.1).nodes, blk v17 [.slice q9.1 (G.1).nodes.length q9.2, .int .i64 (G.1).root] 24, hNodes (.slice q9.1 (G.1).nodes.length q9.2) (G.1).nodes, blk v15 [.slice q8.1 (F.1).nodes.length q8.2, .int .i64 (F.1).root] 24, hNodes (.slice q8.1 (F.1).nodes.length q8.2) (F.1).nodes, blk v13 [.slice q7.1 (E.1).nodes.length q7.2, .int .i64 (E.1).root] 24, hNodes (.slice q7.1 (E.1).nodes.length q7.2) (E.1).nodes, blk v11 [.slice q6.1 (D.1).nodes.length q6.2, .int .i64 (D.1).root] 24, hNodes (.slice q6.1 (D.1).nodes.length q6.2) (D.1).nodes, blk v9 [.slice q5.1 (C.1).nodes.length q5.2, .int .i64 (C.1).root] 24, hNodes (.slice q5.1 (C.1).nodes.length q5.2) (C.1).nodes, blk v7 [.slice q4.1 (B.1).nodes.length q4.2, .int .i64 (B.1).root] 24, hNodes (.slice q4.1 (B.1).nodes.length q4.2) (B.1).nodes, blk v5 [.slice q3.1 (A.1).nodes.length q3.2, .int .i64 (A.1).root] 24, hNodes (.slice q3.1 (A.1).nodes.length q3.2) (A.1).nodes, blk v4 [.slice p6.1 (z).nodes.length p6.2, .int .i64 (z).root] 24, hNodes (.slice p6.1 (z).nodes.length p6.2) (z).nodes, blk v3 [.slice p5.1 (y).nodes.length p5.2, .int .i64 (y).root] 24, hNodes (.slice p5.1 (y).nodes.length p5.2) (y).nodes, blk v2 [.slice p4.1 (x).nodes.length p4.2, .int .i64 (x).root] 24, hNodes (.slice p4.1 (x).nodes.length p4.2) (x).nodes, blk v1 [.slice q1.1 (abc).nodes.length q1.2, .int .i64 (abc).root] 24, hNodes (.slice q1.1 (abc).nodes.length q1.2) (abc).nodes]) (fun w' hw => St.inc IncQ hw) ?_
  apply TC.seq
  refine TC.lexT [] (.seg [0, 1, 2, 3, 4, 5, 6, 7, 8, 9, 10, 11, 12, 13, 14, 15, 16, 17, 18, 19, 20, 21, 22, 23, 24, 25, 26, 27, 28, 29, 30, 31, 32, 33, 34, 35, 36, 37, 38, 39, 40, 41, 42, 43, 44, 45, 46, 47, 48, 49, 50, 51, 52, 53, 54, 55, 56, 57, 58, 59, 60, 61, 62, 63, 64, 65, 66, 67] .fin) mixed (by kernel_rfl) (TT.all rfl (by decide) ?_)
  repeat' (first | ((apply TL.sh)) | ((apply TX.tree)) | ((apply TT.fin)) | ((apply TL.quiet; exact rfl; exact rfl; exact St.base IncB; apply Ev.loadW; exact rfl; exact AtR; exact rfl)) | ((apply TL.keep; exact rfl; exact rfl; exact St.base IncB; (apply Ac.lit1; exact rfl; exact rfl; exact rfl; exact rfl); exact fun _ => St.base IncB)) | ((apply TL.keep; exact rfl; exact rfl; exact St.base IncB; (apply Ac.lit2; exact rfl; exact rfl; exact rfl; exact rfl; exact rfl; exact rfl; exact rfl); exact fun _ => St.base IncB)) | ((apply TL.keep; exact rfl; exact rfl; exact St.base IncB; (apply Ac.lit3; exact rfl; exact rfl; exact rfl; exact rfl; exact rfl; exact rfl; exact rfl; exact rfl; exact rfl; exact rfl); exact fun _ => St.base IncB)) | ((apply TL.kcallR (f := 84); exact rfl; (intro w' hw'; exact ta w'); exact rfl; exact rfl; exact St.base IncB)) | ((apply TL.kcallR (f := 84); exact rfl; (intro w' hw'; exact tb w'); exact rfl; exact rfl; exact St.base IncB)) | ((apply TL.kcallR (f := 84); exact rfl; (intro w' hw'; exact tc w'); exact rfl; exact rfl; exact St.base IncB)) | ((apply TL.kcallR (f := 23); exact rfl; (intro w' hw'; exact te w'); exact rfl; exact rfl; exact St.base IncB)) | ((apply TL.kcallR (f := 25); exact rfl; (intro w' hw'; exact ts w'); exact rfl; exact rfl; exact St.base IncB)) | ((apply TL.kcallR (f := 83) (vs := [.int .u8 5, _]); exact rfl; (intro w' hw'; exact of5_small e4 rfl choN0_wf (by simp) (l3 sx sy sz) _ w' (RTrees.of rfl hw' (by first | exact .here | exact .there .here | exact .there (.there .here)) (All2.more (St.get_treeN hw' AtR).c (All2.more (St.get_treeN hw' AtR).c (All2.more (St.get_treeN hw' AtR).c .nil)))) (Tab.st hT hw')); exact rfl; exact rfl; exact St.base IncB)) | ((apply TL.kcallR (f := 83) (vs := [.int .u8 4, _]); exact rfl; (intro w' hw'; exact of5_small e2 rfl seqN0_wf (by simp) (l2 sb sc) _ w' (RTrees.of rfl hw' (by first | exact .here | exact .there .here | exact .there (.there .here)) (All2.more (St.get_treeN hw' AtR).c (All2.more (St.get_treeN hw' AtR).c .nil))) (Tab.st hT hw')); exact rfl; exact rfl; exact St.base IncB)) | ((apply TL.kcallV (f := 56); exact rfl; (intro w' hw'; exact is5_any _ _ _ _ _ w' (St.get_treeN hw' AtR) (St.get_treeN hw' AtR) (by assumption) (by assumption)); exact rfl; exact rfl; exact St.base IncB)) | (refine W1 ?_) | (refine W2 (fun hc => ?_) (fun hc => ?_)) | (intro _))
  exact TX.ret_tmp rfl rfl (fun w' hw => RetV.eq hw (congrArg Value.bool kN))
end Go.Proofs.YtlhkkngpppcfoaaDoor
